/- Functions' codes on the heap of the mind. Written by a program of this session. -/
import Derived.Test.YtilmfhpoiejmfaaProg
import Derived.Test.YtilmfhpoiejmfaaLh12
namespace Go.Proofs.Ytilmfhpoiejmfaa.Dk
open Go.Proofs.Ytilmfhpoiejmfaa.Lh
set_option maxRecDepth 100000
set_option linter.unusedSectionVars false
variable [Fz]
/-- palatine/disk.New -/
def c22 : LCode :=
  .seq
   (.region [⟨(some 2), none, .op (.move (.const .nilp))⟩,
     ⟨(some 3), none, .op (.move (.const (.int .i64 0)))⟩])
   (.seq
    (.seq
     (.region [⟨(some 5), none, .op (.move (.tmp 0))⟩,
       ⟨(some 6), none, .op (.bin .lss (.tmp 5) (.const (.int .i64 1)))⟩,
       ⟨(some 7), none, .op (.move (.tmp 6))⟩,
       ⟨(some 8), some (7, false), .op (.move (.tmp 0))⟩,
       ⟨(some 9), some (7, false), .op (.bin .gtr (.tmp 8) (.const (.int .i64 4096)))⟩,
       ⟨(some 10), none, .op (.pick (.tmp 7) (.const (.bool true)) (.tmp 9))⟩])
     (.cond (.tmp 10)
      (.seq
       (.region [⟨(some 2), none, .op (.move (.const .nilp))⟩,
         ⟨(some 3), none, .op (.move (.const (.int .i64 1)))⟩])
       (.ret))
      (.skip)))
    (.seq
     (.draws [(0, [], ⟨(some 11), none, .op (.move (.tmp 0))⟩),
       (1, [], ⟨(some 12), none, .op (.make 64 64 116 (.rows 64 1 (fun _ => (.one (.int .u8 0) .nil)) .nil) (.tmp 11) (.tmp 11))⟩),
       (2, [0, 1], ⟨(some 13), none, .op (.move (.tmp 0))⟩),
       (3, [0, 1], ⟨(some 14), none, .op (.make 64 64 116 (.rows 64 1 (fun _ => (.one (.int .u8 0) .nil)) .nil) (.tmp 13) (.tmp 13))⟩),
       (4, [], ⟨(some 15), none, .op (.bst (.one (.slice ⟨0, [], 0⟩ 0 0 0 0 (some 0)) (.one (.slice ⟨0, [], 0⟩ 0 0 0 0 (some 0)) (.one (.slice ⟨0, [], 0⟩ 0 0 0 0 (some 0)) (.one (.bool false) (.one (.int .i64 0) .nil))))) [(0, 1, (.tmp 12)), (1, 1, (.tmp 14))])⟩),
       (5, [], ⟨(some 16), none, .op (.box 111 5 (.tmp 15))⟩),
       (6, [], ⟨(some 4), none, .op (.move (.tmp 16))⟩)])
     (.seq
      (.region [⟨(some 17), none, .op (.move (.tmp 4))⟩,
        ⟨(some 18), none, .op (.nilc (.tmp 17))⟩,
        ⟨(some 19), none, .op (.field 4 (.tmp 18))⟩,
        ⟨(some 20), none, .call 62 [(.tmp 19), (.const (.int .i64 (-1)))]⟩])
      (.seq
       (.region [⟨(some 21), none, .op (.move (.tmp 4))⟩,
         ⟨(some 2), none, .op (.move (.tmp 21))⟩,
         ⟨(some 3), none, .op (.move (.const (.int .i64 0)))⟩])
       (.ret)))))
def r22 : List LRes := [.tmp 2, .tmp 3]
theorem body22 : Try.f22.body.bind (compileC Try.prog) = some c22 := by kernel_rfl
theorem res22 : compileRes Try.prog Try.f22.results.toList = some r22 := by kernel_rfl
theorem has22 : hasBody Try.prog 22 = true := by kernel_rfl
theorem enter22 {args : LVals} {h : LHeap} {R : LEnd → LHeap → Prop} (hk : 22 - lvsLen args = 21) (hw : initK args 21 fun t => lwp Try.prog h.length c22 (bodyQ r22 R) t h) : LCalls Try.prog 22 args h R := LCalls.enter Try.func22 body22 has22 res22 _ (by rw [Try.ntmps22]; exact hk) hw
/-- (*palatine/disk.Disk).Arm -/
def c23 : LCode :=
  .seq
   (.region [⟨(some 4), none, .op (.move (.const (.int .i64 0)))⟩])
   (.seq
    (.block 0
     (.seq
      (.region [⟨(some 6), none, .op (.move (.tmp 1))⟩,
        ⟨(some 7), none, .op (.bin .lss (.tmp 6) (.const (.int .i64 0)))⟩,
        ⟨(some 5), none, .op (.move (.tmp 7))⟩])
      (.cond (.tmp 5)
       (.seq
        (.region [⟨(some 4), none, .op (.move (.const (.int .i64 1)))⟩])
        (.ret))
       (.seq
        (.region [⟨(some 9), none, .op (.move (.tmp 0))⟩,
          ⟨(some 10), none, .op (.nilc (.tmp 9))⟩,
          ⟨(some 11), none, .op (.field 3 (.tmp 10))⟩,
          ⟨(some 12), none, .op (.load none (.tmp 11))⟩,
          ⟨(some 8), none, .op (.move (.tmp 12))⟩])
        (.cond (.tmp 8)
         (.seq
          (.region [⟨(some 4), none, .op (.move (.const (.int .i64 10)))⟩])
          (.ret))
         (.skip))))))
    (.seq
     (.region [⟨(some 13), none, .op (.move (.tmp 0))⟩,
       ⟨(some 14), none, .op (.nilc (.tmp 13))⟩,
       ⟨(some 15), none, .op (.field 4 (.tmp 14))⟩,
       ⟨(some 16), none, .op (.move (.tmp 1))⟩,
       ⟨(some 17), none, .call 62 [(.tmp 15), (.tmp 16)]⟩])
     (.seq
      (.region [⟨(some 4), none, .op (.move (.const (.int .i64 0)))⟩])
      (.ret))))
def r23 : List LRes := [.tmp 4]
theorem body23 : Try.f23.body.bind (compileC Try.prog) = some c23 := by kernel_rfl
theorem res23 : compileRes Try.prog Try.f23.results.toList = some r23 := by kernel_rfl
theorem has23 : hasBody Try.prog 23 = true := by kernel_rfl
theorem enter23 {args : LVals} {h : LHeap} {R : LEnd → LHeap → Prop} (hk : 18 - lvsLen args = 16) (hw : initK args 16 fun t => lwp Try.prog h.length c23 (bodyQ r23 R) t h) : LCalls Try.prog 23 args h R := LCalls.enter Try.func23 body23 has23 res23 _ (by rw [Try.ntmps23]; exact hk) hw
/-- (*palatine/disk.Disk).Read -/
def c24 : LCode :=
  .seq
   (.region [⟨(some 4), none, .op (.move (.const (.slice ⟨0, [], 0⟩ 0 0 0 0 (some 0))))⟩,
     ⟨(some 5), none, .op (.move (.const (.int .i64 0)))⟩])
   (.seq
    (.block 0
     (.seq
      (.region [⟨(some 7), none, .op (.move (.tmp 0))⟩,
        ⟨(some 8), none, .op (.nilc (.tmp 7))⟩,
        ⟨(some 9), none, .op (.field 3 (.tmp 8))⟩,
        ⟨(some 10), none, .op (.load none (.tmp 9))⟩,
        ⟨(some 6), none, .op (.move (.tmp 10))⟩])
      (.cond (.tmp 6)
       (.seq
        (.region [⟨(some 4), none, .op (.move (.const (.slice ⟨0, [], 0⟩ 0 0 0 0 (some 0))))⟩,
          ⟨(some 5), none, .op (.move (.const (.int .i64 10)))⟩])
        (.ret))
       (.seq
        (.region [⟨(some 12), none, .op (.move (.tmp 0))⟩,
          ⟨(some 13), none, .op (.move (.tmp 1))⟩,
          ⟨(some 14), none, .call 63 [(.tmp 12), (.tmp 13)]⟩,
          ⟨(some 15), none, .op (.un .not (.tmp 14))⟩,
          ⟨(some 11), none, .op (.move (.tmp 15))⟩])
        (.cond (.tmp 11)
         (.seq
          (.region [⟨(some 4), none, .op (.move (.const (.slice ⟨0, [], 0⟩ 0 0 0 0 (some 0))))⟩,
            ⟨(some 5), none, .op (.move (.const (.int .i64 11)))⟩])
          (.ret))
         (.skip))))))
    (.seq
     (.region [⟨(some 16), none, .op (.move (.tmp 0))⟩,
       ⟨(some 17), none, .op (.nilc (.tmp 16))⟩,
       ⟨(some 18), none, .op (.field 0 (.tmp 17))⟩,
       ⟨(some 19), none, .op (.load none (.tmp 18))⟩,
       ⟨(some 20), none, .op (.move (.tmp 1))⟩,
       ⟨(some 21), none, .op (.idxSl 64 (.tmp 19) (.tmp 20))⟩,
       ⟨(some 22), none, .op (.load (some 64) (.tmp 21))⟩,
       ⟨(some 23), none, .call 64 [(.tmp 22)]⟩,
       ⟨(some 4), none, .op (.move (.tmp 23))⟩,
       ⟨(some 5), none, .op (.move (.const (.int .i64 0)))⟩])
     (.ret)))
def r24 : List LRes := [.tmp 4, .tmp 5]
theorem body24 : Try.f24.body.bind (compileC Try.prog) = some c24 := by kernel_rfl
theorem res24 : compileRes Try.prog Try.f24.results.toList = some r24 := by kernel_rfl
theorem has24 : hasBody Try.prog 24 = true := by kernel_rfl
theorem enter24 {args : LVals} {h : LHeap} {R : LEnd → LHeap → Prop} (hk : 24 - lvsLen args = 22) (hw : initK args 22 fun t => lwp Try.prog h.length c24 (bodyQ r24 R) t h) : LCalls Try.prog 24 args h R := LCalls.enter Try.func24 body24 has24 res24 _ (by rw [Try.ntmps24]; exact hk) hw
/-- (*palatine/disk.Disk).Flush -/
def c25 : LCode :=
  .seq
   (.region [⟨(some 2), none, .op (.move (.const (.int .i64 0)))⟩])
   (.seq
    (.seq
     (.region [⟨(some 5), none, .op (.move (.tmp 0))⟩,
       ⟨(some 6), none, .op (.nilc (.tmp 5))⟩,
       ⟨(some 7), none, .op (.field 3 (.tmp 6))⟩,
       ⟨(some 8), none, .op (.load none (.tmp 7))⟩,
       ⟨(some 9), none, .op (.move (.tmp 8))⟩,
       ⟨(some 10), some (9, false), .op (.move (.tmp 0))⟩,
       ⟨(some 11), some (9, false), .call 65 [(.tmp 10)]⟩,
       ⟨(some 12), some (9, false), .op (.un .not (.tmp 11))⟩,
       ⟨(some 13), none, .op (.pick (.tmp 9) (.const (.bool true)) (.tmp 12))⟩])
     (.cond (.tmp 13)
      (.seq
       (.region [⟨(some 2), none, .op (.move (.const (.int .i64 10)))⟩])
       (.ret))
      (.skip)))
    (.seq
     (.seq
      (.region [⟨(some 14), none, .op (.move (.tmp 0))⟩,
        ⟨(some 15), none, .op (.nilc (.tmp 14))⟩,
        ⟨(some 16), none, .op (.field 2 (.tmp 15))⟩,
        ⟨(some 17), none, .op (.load none (.tmp 16))⟩,
        ⟨(some 18), none, .op (.lenSl (.tmp 17))⟩,
        ⟨(some 19), none, .op (.move (.const (.int .i64 0)))⟩])
      (.block 0
       (.loop
        (.seq
         (.region [⟨(some 20), none, .op (.bin .lss (.tmp 19) (.tmp 18))⟩])
         (.seq
          (.cond (.tmp 20)
           (.skip)
           (.exit 0))
          (.seq
           (.block 1
            (.seq
             (.region [⟨(some 21), none, .op (.idxSl 65 (.tmp 17) (.tmp 19))⟩,
               ⟨(some 22), none, .op (.load (some 65) (.tmp 21))⟩,
               ⟨(some 4), none, .op (.alloc 118 (.one (.int .i64 0) (.rows 64 1 (fun _ => (.one (.int .u8 0) .nil)) .nil)))⟩,
               ⟨none, none, .op (.store 65 (.tmp 4) (.tmp 22))⟩])
             (.draws [(0, [], ⟨(some 23), none, .op (.move (.tmp 0))⟩),
               (1, [], ⟨(some 24), none, .op (.nilc (.tmp 23))⟩),
               (2, [], ⟨(some 25), none, .op (.field 1 (.tmp 24))⟩),
               (3, [], ⟨(some 26), none, .op (.load none (.tmp 25))⟩),
               (4, [0, 1, 2, 3], ⟨(some 27), none, .op (.field 0 (.tmp 4))⟩),
               (5, [0, 1, 2, 3], ⟨(some 28), none, .op (.load none (.tmp 27))⟩),
               (6, [0, 1, 2, 3, 4, 5], ⟨(some 29), none, .op (.field 1 (.tmp 4))⟩),
               (7, [0, 1, 2, 3, 4, 5], ⟨(some 30), none, .op (.load (some 64) (.tmp 29))⟩),
               (8, [], ⟨(some 31), none, .op (.idxSl 64 (.tmp 26) (.tmp 28))⟩),
               (9, [], ⟨none, none, .op (.store 64 (.tmp 31) (.tmp 30))⟩)])))
           (.region [⟨(some 32), none, .op (.bin .add (.tmp 19) (.const (.int .i64 1)))⟩,
             ⟨(some 19), none, .op (.move (.tmp 32))⟩])))))))
     (.seq
      (.region [⟨(some 33), none, .op (.move (.tmp 0))⟩,
        ⟨(some 34), none, .op (.nilc (.tmp 33))⟩,
        ⟨(some 35), none, .op (.field 2 (.tmp 34))⟩,
        ⟨none, none, .op (.store 1 (.tmp 35) (.const (.slice ⟨0, [], 0⟩ 0 0 0 0 (some 0))))⟩])
      (.seq
       (.region [⟨(some 2), none, .op (.move (.const (.int .i64 0)))⟩])
       (.ret)))))
def r25 : List LRes := [.tmp 2]
theorem body25 : Try.f25.body.bind (compileC Try.prog) = some c25 := by kernel_rfl
theorem res25 : compileRes Try.prog Try.f25.results.toList = some r25 := by kernel_rfl
theorem has25 : hasBody Try.prog 25 = true := by kernel_rfl
theorem enter25 {args : LVals} {h : LHeap} {R : LEnd → LHeap → Prop} (hk : 36 - lvsLen args = 35) (hw : initK args 35 fun t => lwp Try.prog h.length c25 (bodyQ r25 R) t h) : LCalls Try.prog 25 args h R := LCalls.enter Try.func25 body25 has25 res25 _ (by rw [Try.ntmps25]; exact hk) hw
/-- (*palatine/disk.Disk).Write -/
def c26 : LCode :=
  .seq
   (.region [⟨(some 6), none, .op (.move (.const (.int .i64 0)))⟩])
   (.seq
    (.block 0
     (.seq
      (.region [⟨(some 9), none, .op (.move (.tmp 0))⟩,
        ⟨(some 10), none, .op (.nilc (.tmp 9))⟩,
        ⟨(some 11), none, .op (.field 3 (.tmp 10))⟩,
        ⟨(some 12), none, .op (.load none (.tmp 11))⟩,
        ⟨(some 8), none, .op (.move (.tmp 12))⟩])
      (.cond (.tmp 8)
       (.seq
        (.region [⟨(some 6), none, .op (.move (.const (.int .i64 10)))⟩])
        (.ret))
       (.seq
        (.region [⟨(some 14), none, .op (.move (.tmp 0))⟩,
          ⟨(some 15), none, .op (.move (.tmp 1))⟩,
          ⟨(some 16), none, .call 63 [(.tmp 14), (.tmp 15)]⟩,
          ⟨(some 17), none, .op (.un .not (.tmp 16))⟩,
          ⟨(some 13), none, .op (.move (.tmp 17))⟩])
        (.cond (.tmp 13)
         (.seq
          (.region [⟨(some 6), none, .op (.move (.const (.int .i64 11)))⟩])
          (.ret))
         (.seq
          (.region [⟨(some 19), none, .op (.move (.tmp 2))⟩,
            ⟨(some 20), none, .op (.lenSl (.tmp 19))⟩,
            ⟨(some 21), none, .op (.bin .gtr (.tmp 20) (.const (.int .i64 64)))⟩,
            ⟨(some 18), none, .op (.move (.tmp 21))⟩])
          (.cond (.tmp 18)
           (.seq
            (.region [⟨(some 6), none, .op (.move (.const (.int .i64 2)))⟩])
            (.ret))
           (.seq
            (.region [⟨(some 23), none, .op (.move (.tmp 0))⟩,
              ⟨(some 24), none, .call 65 [(.tmp 23)]⟩,
              ⟨(some 25), none, .op (.un .not (.tmp 24))⟩,
              ⟨(some 22), none, .op (.move (.tmp 25))⟩])
            (.cond (.tmp 22)
             (.seq
              (.region [⟨(some 6), none, .op (.move (.const (.int .i64 10)))⟩])
              (.ret))
             (.skip))))))))))
    (.seq
     (.region [⟨(some 26), none, .op (.move (.tmp 1))⟩,
       ⟨(some 27), none, .op (.bst (.one (.int .i64 0) (.rows 64 1 (fun _ => (.one (.int .u8 0) .nil)) .nil)) [(0, 1, (.tmp 26))])⟩,
       ⟨(some 7), none, .op (.alloc 118 (.one (.int .i64 0) (.rows 64 1 (fun _ => (.one (.int .u8 0) .nil)) .nil)))⟩,
       ⟨none, none, .op (.store 65 (.tmp 7) (.tmp 27))⟩])
     (.seq
      (.region [⟨(some 28), none, .op (.field 1 (.tmp 7))⟩,
        ⟨(some 29), none, .op (.slArr 1 64 (.tmp 28) none none)⟩,
        ⟨(some 30), none, .op (.move (.tmp 2))⟩,
        ⟨(some 31), none, .op (.copy 1 (.tmp 29) (.tmp 30))⟩])
      (.seq
       (.draws [(0, [], ⟨(some 32), none, .op (.move (.tmp 0))⟩),
         (1, [], ⟨(some 33), none, .op (.nilc (.tmp 32))⟩),
         (2, [], ⟨(some 34), none, .op (.field 0 (.tmp 33))⟩),
         (3, [], ⟨(some 35), none, .op (.load none (.tmp 34))⟩),
         (4, [0, 1, 2, 3], ⟨(some 36), none, .op (.move (.tmp 1))⟩),
         (5, [0, 1, 2, 3, 4], ⟨(some 37), none, .op (.field 1 (.tmp 7))⟩),
         (6, [0, 1, 2, 3, 4], ⟨(some 38), none, .op (.load (some 64) (.tmp 37))⟩),
         (7, [], ⟨(some 39), none, .op (.idxSl 64 (.tmp 35) (.tmp 36))⟩),
         (8, [], ⟨none, none, .op (.store 64 (.tmp 39) (.tmp 38))⟩)])
       (.seq
        (.draws [(0, [], ⟨(some 40), none, .op (.move (.tmp 0))⟩),
          (1, [0], ⟨(some 41), none, .op (.move (.tmp 0))⟩),
          (2, [0], ⟨(some 42), none, .op (.nilc (.tmp 41))⟩),
          (3, [0], ⟨(some 43), none, .op (.field 2 (.tmp 42))⟩),
          (4, [0], ⟨(some 44), none, .op (.load none (.tmp 43))⟩),
          (5, [0, 1, 2, 3, 4], ⟨(some 45), none, .op (.load (some 65) (.tmp 7))⟩),
          (6, [0, 1, 2, 3, 4], ⟨(some 46), none, .op (.bsl 65 1 118 (.one (.int .i64 0) (.rows 64 1 (fun _ => (.one (.int .u8 0) .nil)) .nil)) [(0, (.tmp 45))])⟩),
          (7, [0], ⟨(some 47), none, .op (.app 65 72 118 (.tmp 44) (.tmp 46))⟩),
          (8, [], ⟨(some 48), none, .op (.nilc (.tmp 40))⟩),
          (9, [], ⟨(some 49), none, .op (.field 2 (.tmp 48))⟩),
          (10, [], ⟨none, none, .op (.store 1 (.tmp 49) (.tmp 47))⟩)])
        (.seq
         (.region [⟨(some 6), none, .op (.move (.const (.int .i64 0)))⟩])
         (.ret)))))))
def r26 : List LRes := [.tmp 6]
theorem body26 : Try.f26.body.bind (compileC Try.prog) = some c26 := by kernel_rfl
theorem res26 : compileRes Try.prog Try.f26.results.toList = some r26 := by kernel_rfl
theorem has26 : hasBody Try.prog 26 = true := by kernel_rfl
theorem enter26 {args : LVals} {h : LHeap} {R : LEnd → LHeap → Prop} (hk : 50 - lvsLen args = 47) (hw : initK args 47 fun t => lwp Try.prog h.length c26 (bodyQ r26 R) t h) : LCalls Try.prog 26 args h R := LCalls.enter Try.func26 body26 has26 res26 _ (by rw [Try.ntmps26]; exact hk) hw
/-- (*palatine/disk.Disk).Crash -/
def c27 : LCode :=
  .seq
   (.region [⟨(some 4), none, .op (.move (.const (.int .i64 0)))⟩])
   (.seq
    (.region [⟨(some 5), none, .op (.move (.const (.int .i64 0)))⟩])
    (.seq
     (.seq
      (.region [⟨(some 8), none, .op (.move (.tmp 0))⟩,
        ⟨(some 9), none, .op (.nilc (.tmp 8))⟩,
        ⟨(some 10), none, .op (.field 2 (.tmp 9))⟩,
        ⟨(some 11), none, .op (.load none (.tmp 10))⟩,
        ⟨(some 12), none, .op (.lenSl (.tmp 11))⟩,
        ⟨(some 13), none, .op (.move (.const (.int .i64 0)))⟩])
      (.block 0
       (.loop
        (.seq
         (.region [⟨(some 14), none, .op (.bin .lss (.tmp 13) (.tmp 12))⟩])
         (.seq
          (.cond (.tmp 14)
           (.skip)
           (.exit 0))
          (.seq
           (.block 1
            (.seq
             (.region [⟨(some 15), none, .op (.move (.tmp 13))⟩,
               ⟨(some 16), none, .op (.idxSl 65 (.tmp 11) (.tmp 13))⟩,
               ⟨(some 17), none, .op (.load (some 65) (.tmp 16))⟩,
               ⟨(some 7), none, .op (.alloc 118 (.one (.int .i64 0) (.rows 64 1 (fun _ => (.one (.int .u8 0) .nil)) .nil)))⟩,
               ⟨(some 6), none, .op (.move (.tmp 15))⟩,
               ⟨none, none, .op (.store 65 (.tmp 7) (.tmp 17))⟩])
             (.seq
              (.region [⟨(some 18), none, .op (.move (.tmp 6))⟩,
                ⟨(some 19), none, .op (.move (.tmp 1))⟩,
                ⟨(some 20), none, .op (.lenSl (.tmp 19))⟩,
                ⟨(some 21), none, .op (.bin .lss (.tmp 18) (.tmp 20))⟩,
                ⟨(some 22), none, .op (.move (.tmp 21))⟩,
                ⟨(some 23), some (22, true), .op (.move (.tmp 1))⟩,
                ⟨(some 24), some (22, true), .op (.move (.tmp 6))⟩,
                ⟨(some 25), some (22, true), .op (.idxSl 1 (.tmp 23) (.tmp 24))⟩,
                ⟨(some 26), some (22, true), .op (.load none (.tmp 25))⟩,
                ⟨(some 27), none, .op (.pick (.tmp 22) (.tmp 26) (.const (.bool false)))⟩])
              (.cond (.tmp 27)
               (.seq
                (.draws [(0, [], ⟨(some 28), none, .op (.move (.tmp 0))⟩),
                  (1, [], ⟨(some 29), none, .op (.nilc (.tmp 28))⟩),
                  (2, [], ⟨(some 30), none, .op (.field 1 (.tmp 29))⟩),
                  (3, [], ⟨(some 31), none, .op (.load none (.tmp 30))⟩),
                  (4, [0, 1, 2, 3], ⟨(some 32), none, .op (.field 0 (.tmp 7))⟩),
                  (5, [0, 1, 2, 3], ⟨(some 33), none, .op (.load none (.tmp 32))⟩),
                  (6, [0, 1, 2, 3, 4, 5], ⟨(some 34), none, .op (.field 1 (.tmp 7))⟩),
                  (7, [0, 1, 2, 3, 4, 5], ⟨(some 35), none, .op (.load (some 64) (.tmp 34))⟩),
                  (8, [], ⟨(some 36), none, .op (.idxSl 64 (.tmp 31) (.tmp 33))⟩),
                  (9, [], ⟨none, none, .op (.store 64 (.tmp 36) (.tmp 35))⟩)])
                (.region [⟨(some 37), none, .op (.move (.tmp 5))⟩,
                  ⟨(some 38), none, .op (.bin .add (.tmp 37) (.const (.int .i64 1)))⟩,
                  ⟨(some 5), none, .op (.move (.tmp 38))⟩]))
               (.skip)))))
           (.region [⟨(some 39), none, .op (.bin .add (.tmp 13) (.const (.int .i64 1)))⟩,
             ⟨(some 13), none, .op (.move (.tmp 39))⟩])))))))
     (.seq
      (.draws [(0, [], ⟨(some 40), none, .op (.move (.tmp 0))⟩),
        (1, [], ⟨(some 41), none, .op (.nilc (.tmp 40))⟩),
        (2, [], ⟨(some 42), none, .op (.field 0 (.tmp 41))⟩),
        (3, [], ⟨(some 43), none, .op (.load none (.tmp 42))⟩),
        (4, [0, 1, 2, 3], ⟨(some 44), none, .op (.move (.tmp 0))⟩),
        (5, [0, 1, 2, 3], ⟨(some 45), none, .op (.nilc (.tmp 44))⟩),
        (6, [0, 1, 2, 3], ⟨(some 46), none, .op (.field 1 (.tmp 45))⟩),
        (7, [0, 1, 2, 3], ⟨(some 47), none, .op (.load none (.tmp 46))⟩),
        (8, [], ⟨(some 48), none, .op (.copy 64 (.tmp 43) (.tmp 47))⟩)])
      (.seq
       (.region [⟨(some 49), none, .op (.move (.tmp 0))⟩,
         ⟨(some 50), none, .op (.move (.tmp 0))⟩,
         ⟨(some 51), none, .op (.nilc (.tmp 49))⟩,
         ⟨(some 52), none, .op (.field 2 (.tmp 51))⟩,
         ⟨none, none, .op (.store 1 (.tmp 52) (.const (.slice ⟨0, [], 0⟩ 0 0 0 0 (some 0))))⟩,
         ⟨(some 53), none, .op (.nilc (.tmp 50))⟩,
         ⟨(some 54), none, .op (.field 3 (.tmp 53))⟩,
         ⟨none, none, .op (.store 1 (.tmp 54) (.const (.bool false)))⟩])
       (.seq
        (.region [⟨(some 55), none, .op (.move (.tmp 0))⟩,
          ⟨(some 56), none, .op (.nilc (.tmp 55))⟩,
          ⟨(some 57), none, .op (.field 4 (.tmp 56))⟩,
          ⟨(some 58), none, .call 62 [(.tmp 57), (.const (.int .i64 (-1)))]⟩])
        (.seq
         (.region [⟨(some 59), none, .op (.move (.tmp 5))⟩,
           ⟨(some 4), none, .op (.move (.tmp 59))⟩])
         (.ret)))))))
def r27 : List LRes := [.tmp 4]
theorem body27 : Try.f27.body.bind (compileC Try.prog) = some c27 := by kernel_rfl
theorem res27 : compileRes Try.prog Try.f27.results.toList = some r27 := by kernel_rfl
theorem has27 : hasBody Try.prog 27 = true := by kernel_rfl
theorem enter27 {args : LVals} {h : LHeap} {R : LEnd → LHeap → Prop} (hk : 60 - lvsLen args = 58) (hw : initK args 58 fun t => lwp Try.prog h.length c27 (bodyQ r27 R) t h) : LCalls Try.prog 27 args h R := LCalls.enter Try.func27 body27 has27 res27 _ (by rw [Try.ntmps27]; exact hk) hw
/-- (*palatine/disk.Disk).Up -/
def c28 : LCode :=
  .seq
   (.region [⟨(some 2), none, .op (.move (.const (.bool false)))⟩])
   (.seq
    (.region [⟨(some 3), none, .op (.move (.tmp 0))⟩,
      ⟨(some 4), none, .op (.nilc (.tmp 3))⟩,
      ⟨(some 5), none, .op (.field 3 (.tmp 4))⟩,
      ⟨(some 6), none, .op (.load none (.tmp 5))⟩,
      ⟨(some 7), none, .op (.un .not (.tmp 6))⟩,
      ⟨(some 2), none, .op (.move (.tmp 7))⟩])
    (.ret))
def r28 : List LRes := [.tmp 2]
theorem body28 : Try.f28.body.bind (compileC Try.prog) = some c28 := by kernel_rfl
theorem res28 : compileRes Try.prog Try.f28.results.toList = some r28 := by kernel_rfl
theorem has28 : hasBody Try.prog 28 = true := by kernel_rfl
theorem enter28 {args : LVals} {h : LHeap} {R : LEnd → LHeap → Prop} (hk : 8 - lvsLen args = 7) (hw : initK args 7 fun t => lwp Try.prog h.length c28 (bodyQ r28 R) t h) : LCalls Try.prog 28 args h R := LCalls.enter Try.func28 body28 has28 res28 _ (by rw [Try.ntmps28]; exact hk) hw
/-- (*palatine/disk.Disk).Lasting -/
def c31 : LCode :=
  .seq
   (.region [⟨(some 4), none, .op (.move (.const (.slice ⟨0, [], 0⟩ 0 0 0 0 (some 0))))⟩,
     ⟨(some 5), none, .op (.move (.const (.int .i64 0)))⟩])
   (.seq
    (.seq
     (.region [⟨(some 6), none, .op (.move (.tmp 0))⟩,
       ⟨(some 7), none, .op (.move (.tmp 1))⟩,
       ⟨(some 8), none, .call 63 [(.tmp 6), (.tmp 7)]⟩,
       ⟨(some 9), none, .op (.un .not (.tmp 8))⟩])
     (.cond (.tmp 9)
      (.seq
       (.region [⟨(some 4), none, .op (.move (.const (.slice ⟨0, [], 0⟩ 0 0 0 0 (some 0))))⟩,
         ⟨(some 5), none, .op (.move (.const (.int .i64 11)))⟩])
       (.ret))
      (.skip)))
    (.seq
     (.region [⟨(some 10), none, .op (.move (.tmp 0))⟩,
       ⟨(some 11), none, .op (.nilc (.tmp 10))⟩,
       ⟨(some 12), none, .op (.field 1 (.tmp 11))⟩,
       ⟨(some 13), none, .op (.load none (.tmp 12))⟩,
       ⟨(some 14), none, .op (.move (.tmp 1))⟩,
       ⟨(some 15), none, .op (.idxSl 64 (.tmp 13) (.tmp 14))⟩,
       ⟨(some 16), none, .op (.load (some 64) (.tmp 15))⟩,
       ⟨(some 17), none, .call 64 [(.tmp 16)]⟩,
       ⟨(some 4), none, .op (.move (.tmp 17))⟩,
       ⟨(some 5), none, .op (.move (.const (.int .i64 0)))⟩])
     (.ret)))
def r31 : List LRes := [.tmp 4, .tmp 5]
theorem body31 : Try.f31.body.bind (compileC Try.prog) = some c31 := by kernel_rfl
theorem res31 : compileRes Try.prog Try.f31.results.toList = some r31 := by kernel_rfl
theorem has31 : hasBody Try.prog 31 = true := by kernel_rfl
theorem enter31 {args : LVals} {h : LHeap} {R : LEnd → LHeap → Prop} (hk : 18 - lvsLen args = 16) (hw : initK args 16 fun t => lwp Try.prog h.length c31 (bodyQ r31 R) t h) : LCalls Try.prog 31 args h R := LCalls.enter Try.func31 body31 has31 res31 _ (by rw [Try.ntmps31]; exact hk) hw
/-- (*palatine/disk.Disk).Pending -/
def c32 : LCode :=
  .seq
   (.region [⟨(some 2), none, .op (.move (.const (.int .i64 0)))⟩])
   (.seq
    (.region [⟨(some 3), none, .op (.move (.tmp 0))⟩,
      ⟨(some 4), none, .op (.nilc (.tmp 3))⟩,
      ⟨(some 5), none, .op (.field 2 (.tmp 4))⟩,
      ⟨(some 6), none, .op (.load none (.tmp 5))⟩,
      ⟨(some 7), none, .op (.lenSl (.tmp 6))⟩,
      ⟨(some 2), none, .op (.move (.tmp 7))⟩])
    (.ret))
def r32 : List LRes := [.tmp 2]
theorem body32 : Try.f32.body.bind (compileC Try.prog) = some c32 := by kernel_rfl
theorem res32 : compileRes Try.prog Try.f32.results.toList = some r32 := by kernel_rfl
theorem has32 : hasBody Try.prog 32 = true := by kernel_rfl
theorem enter32 {args : LVals} {h : LHeap} {R : LEnd → LHeap → Prop} (hk : 8 - lvsLen args = 7) (hw : initK args 7 fun t => lwp Try.prog h.length c32 (bodyQ r32 R) t h) : LCalls Try.prog 32 args h R := LCalls.enter Try.func32 body32 has32 res32 _ (by rw [Try.ntmps32]; exact hk) hw
/-- (*sync/atomic.Int64).Store -/
def c62 : LCode :=
  .region [⟨(some 4), none, .op (.move (.tmp 0))⟩,
    ⟨(some 5), none, .op (.nilc (.tmp 4))⟩,
    ⟨(some 6), none, .op (.field 0 (.tmp 5))⟩,
    ⟨(some 7), none, .op (.move (.tmp 1))⟩,
    ⟨(some 8), none, .op (.atStore (.tmp 6) (.tmp 7))⟩]
def r62 : List LRes := []
theorem body62 : Try.f62.body.bind (compileC Try.prog) = some c62 := by kernel_rfl
theorem res62 : compileRes Try.prog Try.f62.results.toList = some r62 := by kernel_rfl
theorem has62 : hasBody Try.prog 62 = true := by kernel_rfl
theorem enter62 {args : LVals} {h : LHeap} {R : LEnd → LHeap → Prop} (hk : 9 - lvsLen args = 7) (hw : initK args 7 fun t => lwp Try.prog h.length c62 (bodyQ r62 R) t h) : LCalls Try.prog 62 args h R := LCalls.enter Try.func62 body62 has62 res62 _ (by rw [Try.ntmps62]; exact hk) hw
/-- (*palatine/disk.Disk).has -/
def c63 : LCode :=
  .seq
   (.region [⟨(some 4), none, .op (.move (.const (.bool false)))⟩])
   (.seq
    (.region [⟨(some 5), none, .op (.move (.tmp 1))⟩,
      ⟨(some 6), none, .op (.bin .geq (.tmp 5) (.const (.int .i64 0)))⟩,
      ⟨(some 7), none, .op (.move (.tmp 6))⟩,
      ⟨(some 8), some (7, true), .op (.move (.tmp 1))⟩,
      ⟨(some 9), some (7, true), .op (.move (.tmp 0))⟩,
      ⟨(some 10), some (7, true), .op (.nilc (.tmp 9))⟩,
      ⟨(some 11), some (7, true), .op (.field 0 (.tmp 10))⟩,
      ⟨(some 12), some (7, true), .op (.load none (.tmp 11))⟩,
      ⟨(some 13), some (7, true), .op (.lenSl (.tmp 12))⟩,
      ⟨(some 14), some (7, true), .op (.bin .lss (.tmp 8) (.tmp 13))⟩,
      ⟨(some 15), none, .op (.pick (.tmp 7) (.tmp 14) (.const (.bool false)))⟩,
      ⟨(some 4), none, .op (.move (.tmp 15))⟩])
    (.ret))
def r63 : List LRes := [.tmp 4]
theorem body63 : Try.f63.body.bind (compileC Try.prog) = some c63 := by kernel_rfl
theorem res63 : compileRes Try.prog Try.f63.results.toList = some r63 := by kernel_rfl
theorem has63 : hasBody Try.prog 63 = true := by kernel_rfl
theorem enter63 {args : LVals} {h : LHeap} {R : LEnd → LHeap → Prop} (hk : 16 - lvsLen args = 14) (hw : initK args 14 fun t => lwp Try.prog h.length c63 (bodyQ r63 R) t h) : LCalls Try.prog 63 args h R := LCalls.enter Try.func63 body63 has63 res63 _ (by rw [Try.ntmps63]; exact hk) hw
/-- palatine/disk.out -/
def c64 : LCode :=
  .seq
   (.region [⟨(some 1), none, .op (.box 116 64 (.tmp 0))⟩,
     ⟨(some 2), none, .op (.move (.const (.slice ⟨0, [], 0⟩ 0 0 0 0 (some 0))))⟩])
   (.seq
    (.region [⟨(some 4), none, .op (.make 1 1 5 (.one (.int .u8 0) .nil) (.const (.int .i64 64)) (.const (.int .i64 64)))⟩,
      ⟨(some 3), none, .op (.move (.tmp 4))⟩])
    (.seq
     (.region [⟨(some 5), none, .op (.move (.tmp 3))⟩,
       ⟨(some 6), none, .op (.slArr 1 64 (.tmp 1) none none)⟩,
       ⟨(some 7), none, .op (.copy 1 (.tmp 5) (.tmp 6))⟩])
     (.seq
      (.region [⟨(some 8), none, .op (.move (.tmp 3))⟩,
        ⟨(some 2), none, .op (.move (.tmp 8))⟩])
      (.ret))))
def r64 : List LRes := [.tmp 2]
theorem body64 : Try.f64.body.bind (compileC Try.prog) = some c64 := by kernel_rfl
theorem res64 : compileRes Try.prog Try.f64.results.toList = some r64 := by kernel_rfl
theorem has64 : hasBody Try.prog 64 = true := by kernel_rfl
theorem enter64 {args : LVals} {h : LHeap} {R : LEnd → LHeap → Prop} (hk : 9 - lvsLen args = 8) (hw : initK args 8 fun t => lwp Try.prog h.length c64 (bodyQ r64 R) t h) : LCalls Try.prog 64 args h R := LCalls.enter Try.func64 body64 has64 res64 _ (by rw [Try.ntmps64]; exact hk) hw
/-- (*palatine/disk.Disk).goes -/
def c65 : LCode :=
  .seq
   (.region [⟨(some 2), none, .op (.move (.const (.bool false)))⟩])
   (.seq
    (.seq
     (.region [⟨(some 4), none, .op (.move (.tmp 0))⟩,
       ⟨(some 5), none, .op (.nilc (.tmp 4))⟩,
       ⟨(some 6), none, .op (.field 4 (.tmp 5))⟩,
       ⟨(some 7), none, .call 95 [(.tmp 6)]⟩,
       ⟨(some 3), none, .op (.move (.tmp 7))⟩])
     (.block 0
      (.seq
       (.region [⟨(some 9), none, .op (.move (.tmp 3))⟩,
         ⟨(some 10), none, .op (.bin .lss (.tmp 9) (.const (.int .i64 0)))⟩,
         ⟨(some 8), none, .op (.move (.tmp 10))⟩])
       (.cond (.tmp 8)
        (.seq
         (.region [⟨(some 2), none, .op (.move (.const (.bool true)))⟩])
         (.ret))
        (.seq
         (.region [⟨(some 12), none, .op (.move (.tmp 3))⟩,
           ⟨(some 13), none, .op (.bin .eql (.tmp 12) (.const (.int .i64 0)))⟩,
           ⟨(some 11), none, .op (.move (.tmp 13))⟩])
         (.cond (.tmp 11)
          (.seq
           (.region [⟨(some 14), none, .op (.move (.tmp 0))⟩,
             ⟨(some 15), none, .op (.nilc (.tmp 14))⟩,
             ⟨(some 16), none, .op (.field 3 (.tmp 15))⟩,
             ⟨none, none, .op (.store 1 (.tmp 16) (.const (.bool true)))⟩])
           (.seq
            (.region [⟨(some 2), none, .op (.move (.const (.bool false)))⟩])
            (.ret)))
          (.skip)))))))
    (.seq
     (.region [⟨(some 17), none, .op (.move (.tmp 0))⟩,
       ⟨(some 18), none, .op (.nilc (.tmp 17))⟩,
       ⟨(some 19), none, .op (.field 4 (.tmp 18))⟩,
       ⟨(some 20), none, .call 96 [(.tmp 19), (.const (.int .i64 (-1)))]⟩])
     (.seq
      (.region [⟨(some 2), none, .op (.move (.const (.bool true)))⟩])
      (.ret))))
def r65 : List LRes := [.tmp 2]
theorem body65 : Try.f65.body.bind (compileC Try.prog) = some c65 := by kernel_rfl
theorem res65 : compileRes Try.prog Try.f65.results.toList = some r65 := by kernel_rfl
theorem has65 : hasBody Try.prog 65 = true := by kernel_rfl
theorem enter65 {args : LVals} {h : LHeap} {R : LEnd → LHeap → Prop} (hk : 21 - lvsLen args = 20) (hw : initK args 20 fun t => lwp Try.prog h.length c65 (bodyQ r65 R) t h) : LCalls Try.prog 65 args h R := LCalls.enter Try.func65 body65 has65 res65 _ (by rw [Try.ntmps65]; exact hk) hw
/-- (*palatine/disk.Disk).Sectors -/
def c72 : LCode :=
  .seq
   (.region [⟨(some 2), none, .op (.move (.const (.int .i64 0)))⟩])
   (.seq
    (.region [⟨(some 3), none, .op (.move (.tmp 0))⟩,
      ⟨(some 4), none, .op (.nilc (.tmp 3))⟩,
      ⟨(some 5), none, .op (.field 0 (.tmp 4))⟩,
      ⟨(some 6), none, .op (.load none (.tmp 5))⟩,
      ⟨(some 7), none, .op (.lenSl (.tmp 6))⟩,
      ⟨(some 2), none, .op (.move (.tmp 7))⟩])
    (.ret))
def r72 : List LRes := [.tmp 2]
theorem body72 : Try.f72.body.bind (compileC Try.prog) = some c72 := by kernel_rfl
theorem res72 : compileRes Try.prog Try.f72.results.toList = some r72 := by kernel_rfl
theorem has72 : hasBody Try.prog 72 = true := by kernel_rfl
theorem enter72 {args : LVals} {h : LHeap} {R : LEnd → LHeap → Prop} (hk : 8 - lvsLen args = 7) (hw : initK args 7 fun t => lwp Try.prog h.length c72 (bodyQ r72 R) t h) : LCalls Try.prog 72 args h R := LCalls.enter Try.func72 body72 has72 res72 _ (by rw [Try.ntmps72]; exact hk) hw
-- 94: no body
/-- (*sync/atomic.Int64).Load -/
def c95 : LCode :=
  .seq
   (.region [⟨(some 2), none, .op (.move (.const (.int .i64 0)))⟩])
   (.seq
    (.region [⟨(some 3), none, .op (.move (.tmp 0))⟩,
      ⟨(some 4), none, .op (.nilc (.tmp 3))⟩,
      ⟨(some 5), none, .op (.field 0 (.tmp 4))⟩,
      ⟨(some 6), none, .op (.atLoad (.tmp 5))⟩,
      ⟨(some 2), none, .op (.move (.tmp 6))⟩])
    (.ret))
def r95 : List LRes := [.tmp 2]
theorem body95 : Try.f95.body.bind (compileC Try.prog) = some c95 := by kernel_rfl
theorem res95 : compileRes Try.prog Try.f95.results.toList = some r95 := by kernel_rfl
theorem has95 : hasBody Try.prog 95 = true := by kernel_rfl
theorem enter95 {args : LVals} {h : LHeap} {R : LEnd → LHeap → Prop} (hk : 7 - lvsLen args = 6) (hw : initK args 6 fun t => lwp Try.prog h.length c95 (bodyQ r95 R) t h) : LCalls Try.prog 95 args h R := LCalls.enter Try.func95 body95 has95 res95 _ (by rw [Try.ntmps95]; exact hk) hw
/-- (*sync/atomic.Int64).Add -/
def c96 : LCode :=
  .seq
   (.region [⟨(some 4), none, .op (.move (.const (.int .i64 0)))⟩])
   (.seq
    (.region [⟨(some 5), none, .op (.move (.tmp 0))⟩,
      ⟨(some 6), none, .op (.nilc (.tmp 5))⟩,
      ⟨(some 7), none, .op (.field 0 (.tmp 6))⟩,
      ⟨(some 8), none, .op (.move (.tmp 1))⟩,
      ⟨(some 9), none, .op (.atAdd (.tmp 7) (.tmp 8))⟩,
      ⟨(some 4), none, .op (.move (.tmp 9))⟩])
    (.ret))
def r96 : List LRes := [.tmp 4]
theorem body96 : Try.f96.body.bind (compileC Try.prog) = some c96 := by kernel_rfl
theorem res96 : compileRes Try.prog Try.f96.results.toList = some r96 := by kernel_rfl
theorem has96 : hasBody Try.prog 96 = true := by kernel_rfl
theorem enter96 {args : LVals} {h : LHeap} {R : LEnd → LHeap → Prop} (hk : 10 - lvsLen args = 8) (hw : initK args 8 fun t => lwp Try.prog h.length c96 (bodyQ r96 R) t h) : LCalls Try.prog 96 args h R := LCalls.enter Try.func96 body96 has96 res96 _ (by rw [Try.ntmps96]; exact hk) hw
-- 118: no body
-- 119: no body
/-- palatine/palatineref01.Same -/
def c30 : LCode :=
  .seq
   (.region [⟨(some 4), none, .op (.move (.const (.bool false)))⟩])
   (.seq
    (.seq
     (.region [⟨(some 6), none, .op (.move (.tmp 0))⟩,
       ⟨(some 7), none, .op (.lenSl (.tmp 6))⟩,
       ⟨(some 8), none, .op (.move (.tmp 1))⟩,
       ⟨(some 9), none, .op (.lenSl (.tmp 8))⟩,
       ⟨(some 10), none, .op (.bin .neq (.tmp 7) (.tmp 9))⟩])
     (.cond (.tmp 10)
      (.seq
       (.region [⟨(some 4), none, .op (.move (.const (.bool false)))⟩])
       (.ret))
      (.skip)))
    (.seq
     (.seq
      (.region [⟨(some 5), none, .op (.move (.const (.int .i64 0)))⟩])
      (.block 0
       (.loop
        (.seq
         (.seq
          (.region [⟨(some 11), none, .op (.move (.tmp 5))⟩,
            ⟨(some 12), none, .op (.move (.tmp 0))⟩,
            ⟨(some 13), none, .op (.lenSl (.tmp 12))⟩,
            ⟨(some 14), none, .op (.bin .lss (.tmp 11) (.tmp 13))⟩])
          (.cond (.tmp 14)
           (.skip)
           (.exit 0)))
         (.seq
          (.block 1
           (.seq
            (.draws [(0, [], ⟨(some 17), none, .op (.move (.tmp 0))⟩),
              (1, [0], ⟨(some 18), none, .op (.move (.tmp 5))⟩),
              (2, [], ⟨(some 19), none, .op (.idxSl 1 (.tmp 17) (.tmp 18))⟩),
              (3, [], ⟨(some 20), none, .op (.load none (.tmp 19))⟩),
              (4, [0, 1, 2, 3], ⟨(some 21), none, .op (.move (.tmp 1))⟩),
              (5, [0, 1, 2, 3, 4], ⟨(some 22), none, .op (.move (.tmp 5))⟩),
              (6, [0, 1, 2, 3], ⟨(some 23), none, .op (.idxSl 1 (.tmp 21) (.tmp 22))⟩),
              (7, [0, 1, 2, 3], ⟨(some 24), none, .op (.load none (.tmp 23))⟩),
              (8, [], ⟨(some 25), none, .op (.bin .neq (.tmp 20) (.tmp 24))⟩)])
            (.cond (.tmp 25)
             (.seq
              (.region [⟨(some 4), none, .op (.move (.const (.bool false)))⟩])
              (.ret))
             (.skip))))
          (.region [⟨(some 15), none, .op (.move (.tmp 5))⟩,
            ⟨(some 16), none, .op (.bin .add (.tmp 15) (.const (.int .i64 1)))⟩,
            ⟨(some 5), none, .op (.move (.tmp 16))⟩]))))))
     (.seq
      (.region [⟨(some 4), none, .op (.move (.const (.bool true)))⟩])
      (.ret))))
def r30 : List LRes := [.tmp 4]
theorem body30 : Try.f30.body.bind (compileC Try.prog) = some c30 := by kernel_rfl
theorem res30 : compileRes Try.prog Try.f30.results.toList = some r30 := by kernel_rfl
theorem has30 : hasBody Try.prog 30 = true := by kernel_rfl
theorem enter30 {args : LVals} {h : LHeap} {R : LEnd → LHeap → Prop} (hk : 26 - lvsLen args = 24) (hw : initK args 24 fun t => lwp Try.prog h.length c30 (bodyQ r30 R) t h) : LCalls Try.prog 30 args h R := LCalls.enter Try.func30 body30 has30 res30 _ (by rw [Try.ntmps30]; exact hk) hw
/-- palatine/palatineref01.New -/
def c33 : LCode :=
  .seq
   (.region [⟨(some 2), none, .op (.move (.const .nilp))⟩,
     ⟨(some 3), none, .op (.move (.const (.int .i64 0)))⟩])
   (.seq
    (.seq
     (.region [⟨(some 4), none, .op (.move (.tmp 0))⟩,
       ⟨(some 5), none, .op (.bin .lss (.tmp 4) (.const (.int .i64 1)))⟩,
       ⟨(some 6), none, .op (.move (.tmp 5))⟩,
       ⟨(some 7), some (6, false), .op (.move (.tmp 0))⟩,
       ⟨(some 8), some (6, false), .op (.bin .gtr (.tmp 7) (.const (.int .i64 4096)))⟩,
       ⟨(some 9), none, .op (.pick (.tmp 6) (.const (.bool true)) (.tmp 8))⟩])
     (.cond (.tmp 9)
      (.seq
       (.region [⟨(some 2), none, .op (.move (.const .nilp))⟩,
         ⟨(some 3), none, .op (.move (.const (.int .i64 1)))⟩])
       (.ret))
      (.skip)))
    (.seq
     (.region [⟨(some 10), none, .op (.move (.tmp 0))⟩,
       ⟨(some 11), none, .op (.make 64 64 115 (.rows 64 1 (fun _ => (.one (.int .u8 0) .nil)) .nil) (.tmp 10) (.tmp 10))⟩,
       ⟨(some 12), none, .op (.bst (.one (.slice ⟨0, [], 0⟩ 0 0 0 0 (some 0)) (.one (.slice ⟨0, [], 0⟩ 0 0 0 0 (some 0)) (.one (.bool false) (.one (.int .i64 0) .nil)))) [(0, 1, (.tmp 11)), (3, 1, (.const (.int .i64 (-1))))])⟩,
       ⟨(some 13), none, .op (.box 122 4 (.tmp 12))⟩,
       ⟨(some 2), none, .op (.move (.tmp 13))⟩,
       ⟨(some 3), none, .op (.move (.const (.int .i64 0)))⟩])
     (.ret)))
def r33 : List LRes := [.tmp 2, .tmp 3]
theorem body33 : Try.f33.body.bind (compileC Try.prog) = some c33 := by kernel_rfl
theorem res33 : compileRes Try.prog Try.f33.results.toList = some r33 := by kernel_rfl
theorem has33 : hasBody Try.prog 33 = true := by kernel_rfl
theorem enter33 {args : LVals} {h : LHeap} {R : LEnd → LHeap → Prop} (hk : 14 - lvsLen args = 13) (hw : initK args 13 fun t => lwp Try.prog h.length c33 (bodyQ r33 R) t h) : LCalls Try.prog 33 args h R := LCalls.enter Try.func33 body33 has33 res33 _ (by rw [Try.ntmps33]; exact hk) hw
/-- (*palatine/palatineref01.Disk).Read -/
def c66 : LCode :=
  .seq
   (.region [⟨(some 4), none, .op (.move (.const (.slice ⟨0, [], 0⟩ 0 0 0 0 (some 0))))⟩,
     ⟨(some 5), none, .op (.move (.const (.int .i64 0)))⟩])
   (.seq
    (.seq
     (.region [⟨(some 6), none, .op (.move (.tmp 0))⟩,
       ⟨(some 7), none, .op (.nilc (.tmp 6))⟩,
       ⟨(some 8), none, .op (.field 2 (.tmp 7))⟩,
       ⟨(some 9), none, .op (.load none (.tmp 8))⟩])
     (.cond (.tmp 9)
      (.seq
       (.region [⟨(some 4), none, .op (.move (.const (.slice ⟨0, [], 0⟩ 0 0 0 0 (some 0))))⟩,
         ⟨(some 5), none, .op (.move (.const (.int .i64 10)))⟩])
       (.ret))
      (.skip)))
    (.seq
     (.seq
      (.region [⟨(some 10), none, .op (.move (.tmp 1))⟩,
        ⟨(some 11), none, .op (.bin .lss (.tmp 10) (.const (.int .i64 0)))⟩,
        ⟨(some 12), none, .op (.move (.tmp 11))⟩,
        ⟨(some 13), some (12, false), .op (.move (.tmp 1))⟩,
        ⟨(some 14), some (12, false), .op (.move (.tmp 0))⟩,
        ⟨(some 15), some (12, false), .op (.nilc (.tmp 14))⟩,
        ⟨(some 16), some (12, false), .op (.field 0 (.tmp 15))⟩,
        ⟨(some 17), some (12, false), .op (.load none (.tmp 16))⟩,
        ⟨(some 18), some (12, false), .op (.lenSl (.tmp 17))⟩,
        ⟨(some 19), some (12, false), .op (.bin .geq (.tmp 13) (.tmp 18))⟩,
        ⟨(some 20), none, .op (.pick (.tmp 12) (.const (.bool true)) (.tmp 19))⟩])
      (.cond (.tmp 20)
       (.seq
        (.region [⟨(some 4), none, .op (.move (.const (.slice ⟨0, [], 0⟩ 0 0 0 0 (some 0))))⟩,
          ⟨(some 5), none, .op (.move (.const (.int .i64 11)))⟩])
        (.ret))
       (.skip)))
     (.seq
      (.region [⟨(some 21), none, .op (.move (.tmp 0))⟩,
        ⟨(some 22), none, .op (.move (.tmp 1))⟩,
        ⟨(some 23), none, .call 98 [(.tmp 21), (.tmp 22)]⟩,
        ⟨(some 24), none, .call 97 [(.tmp 23)]⟩,
        ⟨(some 4), none, .op (.move (.tmp 24))⟩,
        ⟨(some 5), none, .op (.move (.const (.int .i64 0)))⟩])
      (.ret))))
def r66 : List LRes := [.tmp 4, .tmp 5]
theorem body66 : Try.f66.body.bind (compileC Try.prog) = some c66 := by kernel_rfl
theorem res66 : compileRes Try.prog Try.f66.results.toList = some r66 := by kernel_rfl
theorem has66 : hasBody Try.prog 66 = true := by kernel_rfl
theorem enter66 {args : LVals} {h : LHeap} {R : LEnd → LHeap → Prop} (hk : 25 - lvsLen args = 23) (hw : initK args 23 fun t => lwp Try.prog h.length c66 (bodyQ r66 R) t h) : LCalls Try.prog 66 args h R := LCalls.enter Try.func66 body66 has66 res66 _ (by rw [Try.ntmps66]; exact hk) hw
/-- (*palatine/palatineref01.Disk).Lasting -/
def c67 : LCode :=
  .seq
   (.region [⟨(some 4), none, .op (.move (.const (.slice ⟨0, [], 0⟩ 0 0 0 0 (some 0))))⟩,
     ⟨(some 5), none, .op (.move (.const (.int .i64 0)))⟩])
   (.seq
    (.seq
     (.region [⟨(some 6), none, .op (.move (.tmp 1))⟩,
       ⟨(some 7), none, .op (.bin .lss (.tmp 6) (.const (.int .i64 0)))⟩,
       ⟨(some 8), none, .op (.move (.tmp 7))⟩,
       ⟨(some 9), some (8, false), .op (.move (.tmp 1))⟩,
       ⟨(some 10), some (8, false), .op (.move (.tmp 0))⟩,
       ⟨(some 11), some (8, false), .op (.nilc (.tmp 10))⟩,
       ⟨(some 12), some (8, false), .op (.field 0 (.tmp 11))⟩,
       ⟨(some 13), some (8, false), .op (.load none (.tmp 12))⟩,
       ⟨(some 14), some (8, false), .op (.lenSl (.tmp 13))⟩,
       ⟨(some 15), some (8, false), .op (.bin .geq (.tmp 9) (.tmp 14))⟩,
       ⟨(some 16), none, .op (.pick (.tmp 8) (.const (.bool true)) (.tmp 15))⟩])
     (.cond (.tmp 16)
      (.seq
       (.region [⟨(some 4), none, .op (.move (.const (.slice ⟨0, [], 0⟩ 0 0 0 0 (some 0))))⟩,
         ⟨(some 5), none, .op (.move (.const (.int .i64 11)))⟩])
       (.ret))
      (.skip)))
    (.seq
     (.region [⟨(some 17), none, .op (.move (.tmp 0))⟩,
       ⟨(some 18), none, .op (.nilc (.tmp 17))⟩,
       ⟨(some 19), none, .op (.field 0 (.tmp 18))⟩,
       ⟨(some 20), none, .op (.load none (.tmp 19))⟩,
       ⟨(some 21), none, .op (.move (.tmp 1))⟩,
       ⟨(some 22), none, .op (.idxSl 64 (.tmp 20) (.tmp 21))⟩,
       ⟨(some 23), none, .op (.load (some 64) (.tmp 22))⟩,
       ⟨(some 24), none, .call 97 [(.tmp 23)]⟩,
       ⟨(some 4), none, .op (.move (.tmp 24))⟩,
       ⟨(some 5), none, .op (.move (.const (.int .i64 0)))⟩])
     (.ret)))
def r67 : List LRes := [.tmp 4, .tmp 5]
theorem body67 : Try.f67.body.bind (compileC Try.prog) = some c67 := by kernel_rfl
theorem res67 : compileRes Try.prog Try.f67.results.toList = some r67 := by kernel_rfl
theorem has67 : hasBody Try.prog 67 = true := by kernel_rfl
theorem enter67 {args : LVals} {h : LHeap} {R : LEnd → LHeap → Prop} (hk : 25 - lvsLen args = 23) (hw : initK args 23 fun t => lwp Try.prog h.length c67 (bodyQ r67 R) t h) : LCalls Try.prog 67 args h R := LCalls.enter Try.func67 body67 has67 res67 _ (by rw [Try.ntmps67]; exact hk) hw
/-- (*palatine/palatineref01.Disk).Write -/
def c68 : LCode :=
  .seq
   (.region [⟨(some 6), none, .op (.move (.const (.int .i64 0)))⟩])
   (.seq
    (.seq
     (.region [⟨(some 10), none, .op (.move (.tmp 0))⟩,
       ⟨(some 11), none, .op (.nilc (.tmp 10))⟩,
       ⟨(some 12), none, .op (.field 2 (.tmp 11))⟩,
       ⟨(some 13), none, .op (.load none (.tmp 12))⟩])
     (.cond (.tmp 13)
      (.seq
       (.region [⟨(some 6), none, .op (.move (.const (.int .i64 10)))⟩])
       (.ret))
      (.skip)))
    (.seq
     (.seq
      (.region [⟨(some 14), none, .op (.move (.tmp 1))⟩,
        ⟨(some 15), none, .op (.bin .lss (.tmp 14) (.const (.int .i64 0)))⟩,
        ⟨(some 16), none, .op (.move (.tmp 15))⟩,
        ⟨(some 17), some (16, false), .op (.move (.tmp 1))⟩,
        ⟨(some 18), some (16, false), .op (.move (.tmp 0))⟩,
        ⟨(some 19), some (16, false), .op (.nilc (.tmp 18))⟩,
        ⟨(some 20), some (16, false), .op (.field 0 (.tmp 19))⟩,
        ⟨(some 21), some (16, false), .op (.load none (.tmp 20))⟩,
        ⟨(some 22), some (16, false), .op (.lenSl (.tmp 21))⟩,
        ⟨(some 23), some (16, false), .op (.bin .geq (.tmp 17) (.tmp 22))⟩,
        ⟨(some 24), none, .op (.pick (.tmp 16) (.const (.bool true)) (.tmp 23))⟩])
      (.cond (.tmp 24)
       (.seq
        (.region [⟨(some 6), none, .op (.move (.const (.int .i64 11)))⟩])
        (.ret))
       (.skip)))
     (.seq
      (.seq
       (.region [⟨(some 25), none, .op (.move (.tmp 2))⟩,
         ⟨(some 26), none, .op (.lenSl (.tmp 25))⟩,
         ⟨(some 27), none, .op (.bin .gtr (.tmp 26) (.const (.int .i64 64)))⟩])
       (.cond (.tmp 27)
        (.seq
         (.region [⟨(some 6), none, .op (.move (.const (.int .i64 2)))⟩])
         (.ret))
        (.skip)))
      (.seq
       (.region [⟨(some 28), none, .op (.move (.tmp 0))⟩,
         ⟨(some 29), none, .call 99 [(.tmp 28)]⟩,
         ⟨(some 7), none, .op (.move (.tmp 29))⟩])
       (.seq
        (.seq
         (.region [⟨(some 30), none, .op (.move (.tmp 7))⟩,
           ⟨(some 31), none, .op (.un .not (.tmp 30))⟩])
         (.cond (.tmp 31)
          (.seq
           (.region [⟨(some 6), none, .op (.move (.const (.int .i64 10)))⟩])
           (.ret))
          (.skip)))
        (.seq
         (.region [⟨(some 32), none, .op (.move (.tmp 1))⟩,
           ⟨(some 33), none, .op (.bst (.one (.int .i64 0) (.rows 64 1 (fun _ => (.one (.int .u8 0) .nil)) .nil)) [(0, 1, (.tmp 32))])⟩,
           ⟨(some 8), none, .op (.alloc 171 (.one (.int .i64 0) (.rows 64 1 (fun _ => (.one (.int .u8 0) .nil)) .nil)))⟩,
           ⟨none, none, .op (.store 65 (.tmp 8) (.tmp 33))⟩])
         (.seq
          (.seq
           (.region [⟨(some 9), none, .op (.move (.const (.int .i64 0)))⟩])
           (.block 0
            (.loop
             (.seq
              (.seq
               (.region [⟨(some 34), none, .op (.move (.tmp 9))⟩,
                 ⟨(some 35), none, .op (.move (.tmp 2))⟩,
                 ⟨(some 36), none, .op (.lenSl (.tmp 35))⟩,
                 ⟨(some 37), none, .op (.bin .lss (.tmp 34) (.tmp 36))⟩])
               (.cond (.tmp 37)
                (.skip)
                (.exit 0)))
              (.seq
               (.block 1
                (.region [⟨(some 40), none, .op (.move (.tmp 9))⟩,
                  ⟨(some 41), none, .op (.move (.tmp 2))⟩,
                  ⟨(some 42), none, .op (.move (.tmp 9))⟩,
                  ⟨(some 43), none, .op (.idxSl 1 (.tmp 41) (.tmp 42))⟩,
                  ⟨(some 44), none, .op (.load none (.tmp 43))⟩,
                  ⟨(some 45), none, .op (.field 1 (.tmp 8))⟩,
                  ⟨(some 46), none, .op (.idxArr 1 64 (.tmp 45) (.tmp 40))⟩,
                  ⟨none, none, .op (.store 1 (.tmp 46) (.tmp 44))⟩]))
               (.region [⟨(some 38), none, .op (.move (.tmp 9))⟩,
                 ⟨(some 39), none, .op (.bin .add (.tmp 38) (.const (.int .i64 1)))⟩,
                 ⟨(some 9), none, .op (.move (.tmp 39))⟩]))))))
          (.seq
           (.draws [(0, [], ⟨(some 47), none, .op (.move (.tmp 0))⟩),
             (1, [0], ⟨(some 48), none, .op (.move (.tmp 0))⟩),
             (2, [0], ⟨(some 49), none, .op (.nilc (.tmp 48))⟩),
             (3, [0], ⟨(some 50), none, .op (.field 1 (.tmp 49))⟩),
             (4, [0], ⟨(some 51), none, .op (.load none (.tmp 50))⟩),
             (5, [0, 1, 2, 3, 4], ⟨(some 52), none, .op (.load (some 65) (.tmp 8))⟩),
             (6, [0, 1, 2, 3, 4], ⟨(some 53), none, .op (.bsl 65 1 171 (.one (.int .i64 0) (.rows 64 1 (fun _ => (.one (.int .u8 0) .nil)) .nil)) [(0, (.tmp 52))])⟩),
             (7, [0], ⟨(some 54), none, .op (.app 65 72 171 (.tmp 51) (.tmp 53))⟩),
             (8, [], ⟨(some 55), none, .op (.nilc (.tmp 47))⟩),
             (9, [], ⟨(some 56), none, .op (.field 1 (.tmp 55))⟩),
             (10, [], ⟨none, none, .op (.store 1 (.tmp 56) (.tmp 54))⟩)])
           (.seq
            (.region [⟨(some 6), none, .op (.move (.const (.int .i64 0)))⟩])
            (.ret))))))))))
def r68 : List LRes := [.tmp 6]
theorem body68 : Try.f68.body.bind (compileC Try.prog) = some c68 := by kernel_rfl
theorem res68 : compileRes Try.prog Try.f68.results.toList = some r68 := by kernel_rfl
theorem has68 : hasBody Try.prog 68 = true := by kernel_rfl
theorem enter68 {args : LVals} {h : LHeap} {R : LEnd → LHeap → Prop} (hk : 57 - lvsLen args = 54) (hw : initK args 54 fun t => lwp Try.prog h.length c68 (bodyQ r68 R) t h) : LCalls Try.prog 68 args h R := LCalls.enter Try.func68 body68 has68 res68 _ (by rw [Try.ntmps68]; exact hk) hw
/-- (*palatine/palatineref01.Disk).Flush -/
def c69 : LCode :=
  .seq
   (.region [⟨(some 2), none, .op (.move (.const (.int .i64 0)))⟩])
   (.seq
    (.seq
     (.region [⟨(some 5), none, .op (.move (.tmp 0))⟩,
       ⟨(some 6), none, .op (.nilc (.tmp 5))⟩,
       ⟨(some 7), none, .op (.field 2 (.tmp 6))⟩,
       ⟨(some 8), none, .op (.load none (.tmp 7))⟩])
     (.cond (.tmp 8)
      (.seq
       (.region [⟨(some 2), none, .op (.move (.const (.int .i64 10)))⟩])
       (.ret))
      (.skip)))
    (.seq
     (.region [⟨(some 9), none, .op (.move (.tmp 0))⟩,
       ⟨(some 10), none, .call 99 [(.tmp 9)]⟩,
       ⟨(some 3), none, .op (.move (.tmp 10))⟩])
     (.seq
      (.seq
       (.region [⟨(some 11), none, .op (.move (.tmp 3))⟩,
         ⟨(some 12), none, .op (.un .not (.tmp 11))⟩])
       (.cond (.tmp 12)
        (.seq
         (.region [⟨(some 2), none, .op (.move (.const (.int .i64 10)))⟩])
         (.ret))
        (.skip)))
      (.seq
       (.seq
        (.region [⟨(some 4), none, .op (.move (.const (.int .i64 0)))⟩])
        (.block 0
         (.loop
          (.seq
           (.seq
            (.region [⟨(some 13), none, .op (.move (.tmp 4))⟩,
              ⟨(some 14), none, .op (.move (.tmp 0))⟩,
              ⟨(some 15), none, .op (.nilc (.tmp 14))⟩,
              ⟨(some 16), none, .op (.field 1 (.tmp 15))⟩,
              ⟨(some 17), none, .op (.load none (.tmp 16))⟩,
              ⟨(some 18), none, .op (.lenSl (.tmp 17))⟩,
              ⟨(some 19), none, .op (.bin .lss (.tmp 13) (.tmp 18))⟩])
            (.cond (.tmp 19)
             (.skip)
             (.exit 0)))
           (.seq
            (.block 1
             (.draws [(0, [], ⟨(some 22), none, .op (.move (.tmp 0))⟩),
               (1, [], ⟨(some 23), none, .op (.nilc (.tmp 22))⟩),
               (2, [], ⟨(some 24), none, .op (.field 0 (.tmp 23))⟩),
               (3, [], ⟨(some 25), none, .op (.load none (.tmp 24))⟩),
               (4, [0, 1, 2, 3], ⟨(some 26), none, .op (.move (.tmp 0))⟩),
               (5, [0, 1, 2, 3], ⟨(some 27), none, .op (.nilc (.tmp 26))⟩),
               (6, [0, 1, 2, 3], ⟨(some 28), none, .op (.field 1 (.tmp 27))⟩),
               (7, [0, 1, 2, 3], ⟨(some 29), none, .op (.load none (.tmp 28))⟩),
               (8, [0, 1, 2, 3, 4, 5, 6, 7], ⟨(some 30), none, .op (.move (.tmp 4))⟩),
               (9, [0, 1, 2, 3], ⟨(some 31), none, .op (.idxSl 65 (.tmp 29) (.tmp 30))⟩),
               (10, [0, 1, 2, 3], ⟨(some 32), none, .op (.field 0 (.tmp 31))⟩),
               (11, [0, 1, 2, 3], ⟨(some 33), none, .op (.load none (.tmp 32))⟩),
               (12, [0, 1, 2, 3, 4, 5, 6, 7, 8, 9, 10, 11], ⟨(some 34), none, .op (.move (.tmp 0))⟩),
               (13, [0, 1, 2, 3, 4, 5, 6, 7, 8, 9, 10, 11], ⟨(some 35), none, .op (.nilc (.tmp 34))⟩),
               (14, [0, 1, 2, 3, 4, 5, 6, 7, 8, 9, 10, 11], ⟨(some 36), none, .op (.field 1 (.tmp 35))⟩),
               (15, [0, 1, 2, 3, 4, 5, 6, 7, 8, 9, 10, 11], ⟨(some 37), none, .op (.load none (.tmp 36))⟩),
               (16, [0, 1, 2, 3, 4, 5, 6, 7, 8, 9, 10, 11, 12, 13, 14, 15], ⟨(some 38), none, .op (.move (.tmp 4))⟩),
               (17, [0, 1, 2, 3, 4, 5, 6, 7, 8, 9, 10, 11], ⟨(some 39), none, .op (.idxSl 65 (.tmp 37) (.tmp 38))⟩),
               (18, [0, 1, 2, 3, 4, 5, 6, 7, 8, 9, 10, 11], ⟨(some 40), none, .op (.field 1 (.tmp 39))⟩),
               (19, [0, 1, 2, 3, 4, 5, 6, 7, 8, 9, 10, 11], ⟨(some 41), none, .op (.load (some 64) (.tmp 40))⟩),
               (20, [], ⟨(some 42), none, .op (.idxSl 64 (.tmp 25) (.tmp 33))⟩),
               (21, [], ⟨none, none, .op (.store 64 (.tmp 42) (.tmp 41))⟩)]))
            (.region [⟨(some 20), none, .op (.move (.tmp 4))⟩,
              ⟨(some 21), none, .op (.bin .add (.tmp 20) (.const (.int .i64 1)))⟩,
              ⟨(some 4), none, .op (.move (.tmp 21))⟩]))))))
       (.seq
        (.region [⟨(some 43), none, .op (.move (.tmp 0))⟩,
          ⟨(some 44), none, .op (.nilc (.tmp 43))⟩,
          ⟨(some 45), none, .op (.field 1 (.tmp 44))⟩,
          ⟨none, none, .op (.store 1 (.tmp 45) (.const (.slice ⟨0, [], 0⟩ 0 0 0 0 (some 0))))⟩])
        (.seq
         (.region [⟨(some 2), none, .op (.move (.const (.int .i64 0)))⟩])
         (.ret)))))))
def r69 : List LRes := [.tmp 2]
theorem body69 : Try.f69.body.bind (compileC Try.prog) = some c69 := by kernel_rfl
theorem res69 : compileRes Try.prog Try.f69.results.toList = some r69 := by kernel_rfl
theorem has69 : hasBody Try.prog 69 = true := by kernel_rfl
theorem enter69 {args : LVals} {h : LHeap} {R : LEnd → LHeap → Prop} (hk : 46 - lvsLen args = 45) (hw : initK args 45 fun t => lwp Try.prog h.length c69 (bodyQ r69 R) t h) : LCalls Try.prog 69 args h R := LCalls.enter Try.func69 body69 has69 res69 _ (by rw [Try.ntmps69]; exact hk) hw
/-- (*palatine/palatineref01.Disk).Arm -/
def c70 : LCode :=
  .seq
   (.region [⟨(some 4), none, .op (.move (.const (.int .i64 0)))⟩])
   (.seq
    (.seq
     (.region [⟨(some 5), none, .op (.move (.tmp 1))⟩,
       ⟨(some 6), none, .op (.bin .lss (.tmp 5) (.const (.int .i64 0)))⟩])
     (.cond (.tmp 6)
      (.seq
       (.region [⟨(some 4), none, .op (.move (.const (.int .i64 1)))⟩])
       (.ret))
      (.skip)))
    (.seq
     (.seq
      (.region [⟨(some 7), none, .op (.move (.tmp 0))⟩,
        ⟨(some 8), none, .op (.nilc (.tmp 7))⟩,
        ⟨(some 9), none, .op (.field 2 (.tmp 8))⟩,
        ⟨(some 10), none, .op (.load none (.tmp 9))⟩])
      (.cond (.tmp 10)
       (.seq
        (.region [⟨(some 4), none, .op (.move (.const (.int .i64 10)))⟩])
        (.ret))
       (.skip)))
     (.seq
      (.region [⟨(some 11), none, .op (.move (.tmp 0))⟩,
        ⟨(some 12), none, .op (.move (.tmp 1))⟩,
        ⟨(some 13), none, .op (.nilc (.tmp 11))⟩,
        ⟨(some 14), none, .op (.field 3 (.tmp 13))⟩,
        ⟨none, none, .op (.store 1 (.tmp 14) (.tmp 12))⟩])
      (.seq
       (.region [⟨(some 4), none, .op (.move (.const (.int .i64 0)))⟩])
       (.ret)))))
def r70 : List LRes := [.tmp 4]
theorem body70 : Try.f70.body.bind (compileC Try.prog) = some c70 := by kernel_rfl
theorem res70 : compileRes Try.prog Try.f70.results.toList = some r70 := by kernel_rfl
theorem has70 : hasBody Try.prog 70 = true := by kernel_rfl
theorem enter70 {args : LVals} {h : LHeap} {R : LEnd → LHeap → Prop} (hk : 15 - lvsLen args = 13) (hw : initK args 13 fun t => lwp Try.prog h.length c70 (bodyQ r70 R) t h) : LCalls Try.prog 70 args h R := LCalls.enter Try.func70 body70 has70 res70 _ (by rw [Try.ntmps70]; exact hk) hw
/-- (*palatine/palatineref01.Disk).Crash -/
def c71 : LCode :=
  .seq
   (.region [⟨(some 4), none, .op (.move (.const (.int .i64 0)))⟩])
   (.seq
    (.region [⟨(some 5), none, .op (.move (.const (.int .i64 0)))⟩])
    (.seq
     (.seq
      (.region [⟨(some 6), none, .op (.move (.const (.int .i64 0)))⟩])
      (.block 0
       (.loop
        (.seq
         (.seq
          (.region [⟨(some 7), none, .op (.move (.tmp 6))⟩,
            ⟨(some 8), none, .op (.move (.tmp 0))⟩,
            ⟨(some 9), none, .op (.nilc (.tmp 8))⟩,
            ⟨(some 10), none, .op (.field 1 (.tmp 9))⟩,
            ⟨(some 11), none, .op (.load none (.tmp 10))⟩,
            ⟨(some 12), none, .op (.lenSl (.tmp 11))⟩,
            ⟨(some 13), none, .op (.bin .lss (.tmp 7) (.tmp 12))⟩])
          (.cond (.tmp 13)
           (.skip)
           (.exit 0)))
         (.seq
          (.block 1
           (.seq
            (.region [⟨(some 16), none, .op (.move (.tmp 6))⟩,
              ⟨(some 17), none, .op (.move (.tmp 1))⟩,
              ⟨(some 18), none, .op (.lenSl (.tmp 17))⟩,
              ⟨(some 19), none, .op (.bin .lss (.tmp 16) (.tmp 18))⟩,
              ⟨(some 20), none, .op (.move (.tmp 19))⟩,
              ⟨(some 21), some (20, true), .op (.move (.tmp 1))⟩,
              ⟨(some 22), some (20, true), .op (.move (.tmp 6))⟩,
              ⟨(some 23), some (20, true), .op (.idxSl 1 (.tmp 21) (.tmp 22))⟩,
              ⟨(some 24), some (20, true), .op (.load none (.tmp 23))⟩,
              ⟨(some 25), none, .op (.pick (.tmp 20) (.tmp 24) (.const (.bool false)))⟩])
            (.cond (.tmp 25)
             (.seq
              (.draws [(0, [], ⟨(some 26), none, .op (.move (.tmp 0))⟩),
                (1, [], ⟨(some 27), none, .op (.nilc (.tmp 26))⟩),
                (2, [], ⟨(some 28), none, .op (.field 0 (.tmp 27))⟩),
                (3, [], ⟨(some 29), none, .op (.load none (.tmp 28))⟩),
                (4, [0, 1, 2, 3], ⟨(some 30), none, .op (.move (.tmp 0))⟩),
                (5, [0, 1, 2, 3], ⟨(some 31), none, .op (.nilc (.tmp 30))⟩),
                (6, [0, 1, 2, 3], ⟨(some 32), none, .op (.field 1 (.tmp 31))⟩),
                (7, [0, 1, 2, 3], ⟨(some 33), none, .op (.load none (.tmp 32))⟩),
                (8, [0, 1, 2, 3, 4, 5, 6, 7], ⟨(some 34), none, .op (.move (.tmp 6))⟩),
                (9, [0, 1, 2, 3], ⟨(some 35), none, .op (.idxSl 65 (.tmp 33) (.tmp 34))⟩),
                (10, [0, 1, 2, 3], ⟨(some 36), none, .op (.field 0 (.tmp 35))⟩),
                (11, [0, 1, 2, 3], ⟨(some 37), none, .op (.load none (.tmp 36))⟩),
                (12, [0, 1, 2, 3, 4, 5, 6, 7, 8, 9, 10, 11], ⟨(some 38), none, .op (.move (.tmp 0))⟩),
                (13, [0, 1, 2, 3, 4, 5, 6, 7, 8, 9, 10, 11], ⟨(some 39), none, .op (.nilc (.tmp 38))⟩),
                (14, [0, 1, 2, 3, 4, 5, 6, 7, 8, 9, 10, 11], ⟨(some 40), none, .op (.field 1 (.tmp 39))⟩),
                (15, [0, 1, 2, 3, 4, 5, 6, 7, 8, 9, 10, 11], ⟨(some 41), none, .op (.load none (.tmp 40))⟩),
                (16, [0, 1, 2, 3, 4, 5, 6, 7, 8, 9, 10, 11, 12, 13, 14, 15], ⟨(some 42), none, .op (.move (.tmp 6))⟩),
                (17, [0, 1, 2, 3, 4, 5, 6, 7, 8, 9, 10, 11], ⟨(some 43), none, .op (.idxSl 65 (.tmp 41) (.tmp 42))⟩),
                (18, [0, 1, 2, 3, 4, 5, 6, 7, 8, 9, 10, 11], ⟨(some 44), none, .op (.field 1 (.tmp 43))⟩),
                (19, [0, 1, 2, 3, 4, 5, 6, 7, 8, 9, 10, 11], ⟨(some 45), none, .op (.load (some 64) (.tmp 44))⟩),
                (20, [], ⟨(some 46), none, .op (.idxSl 64 (.tmp 29) (.tmp 37))⟩),
                (21, [], ⟨none, none, .op (.store 64 (.tmp 46) (.tmp 45))⟩)])
              (.region [⟨(some 47), none, .op (.move (.tmp 5))⟩,
                ⟨(some 48), none, .op (.bin .add (.tmp 47) (.const (.int .i64 1)))⟩,
                ⟨(some 5), none, .op (.move (.tmp 48))⟩]))
             (.skip))))
          (.region [⟨(some 14), none, .op (.move (.tmp 6))⟩,
            ⟨(some 15), none, .op (.bin .add (.tmp 14) (.const (.int .i64 1)))⟩,
            ⟨(some 6), none, .op (.move (.tmp 15))⟩]))))))
     (.seq
      (.region [⟨(some 49), none, .op (.move (.tmp 0))⟩,
        ⟨(some 50), none, .op (.nilc (.tmp 49))⟩,
        ⟨(some 51), none, .op (.field 1 (.tmp 50))⟩,
        ⟨none, none, .op (.store 1 (.tmp 51) (.const (.slice ⟨0, [], 0⟩ 0 0 0 0 (some 0))))⟩])
      (.seq
       (.region [⟨(some 52), none, .op (.move (.tmp 0))⟩,
         ⟨(some 53), none, .op (.nilc (.tmp 52))⟩,
         ⟨(some 54), none, .op (.field 2 (.tmp 53))⟩,
         ⟨none, none, .op (.store 1 (.tmp 54) (.const (.bool false)))⟩])
       (.seq
        (.region [⟨(some 55), none, .op (.move (.tmp 0))⟩,
          ⟨(some 56), none, .op (.nilc (.tmp 55))⟩,
          ⟨(some 57), none, .op (.field 3 (.tmp 56))⟩,
          ⟨none, none, .op (.store 1 (.tmp 57) (.const (.int .i64 (-1))))⟩])
        (.seq
         (.region [⟨(some 58), none, .op (.move (.tmp 5))⟩,
           ⟨(some 4), none, .op (.move (.tmp 58))⟩])
         (.ret)))))))
def r71 : List LRes := [.tmp 4]
theorem body71 : Try.f71.body.bind (compileC Try.prog) = some c71 := by kernel_rfl
theorem res71 : compileRes Try.prog Try.f71.results.toList = some r71 := by kernel_rfl
theorem has71 : hasBody Try.prog 71 = true := by kernel_rfl
theorem enter71 {args : LVals} {h : LHeap} {R : LEnd → LHeap → Prop} (hk : 59 - lvsLen args = 57) (hw : initK args 57 fun t => lwp Try.prog h.length c71 (bodyQ r71 R) t h) : LCalls Try.prog 71 args h R := LCalls.enter Try.func71 body71 has71 res71 _ (by rw [Try.ntmps71]; exact hk) hw
/-- palatine/palatineref01.Bytes -/
def c97 : LCode :=
  .seq
   (.region [⟨(some 1), none, .op (.box 115 64 (.tmp 0))⟩,
     ⟨(some 2), none, .op (.move (.const (.slice ⟨0, [], 0⟩ 0 0 0 0 (some 0))))⟩])
   (.seq
    (.region [⟨(some 3), none, .op (.move (.const (.slice ⟨0, [], 0⟩ 0 0 0 0 (some 0))))⟩])
    (.seq
     (.seq
      (.region [⟨(some 4), none, .op (.move (.const (.int .i64 0)))⟩])
      (.block 0
       (.loop
        (.seq
         (.seq
          (.region [⟨(some 5), none, .op (.move (.tmp 4))⟩,
            ⟨(some 6), none, .op (.bin .lss (.tmp 5) (.const (.int .i64 64)))⟩])
          (.cond (.tmp 6)
           (.skip)
           (.exit 0)))
         (.seq
          (.block 1
           (.region [⟨(some 9), none, .op (.move (.tmp 3))⟩,
             ⟨(some 10), none, .op (.move (.tmp 4))⟩,
             ⟨(some 11), none, .op (.idxArr 1 64 (.tmp 1) (.tmp 10))⟩,
             ⟨(some 12), none, .op (.load none (.tmp 11))⟩,
             ⟨(some 13), none, .op (.bsl 1 1 5 (.one (.int .u8 0) .nil) [(0, (.tmp 12))])⟩,
             ⟨(some 14), none, .op (.app 1 1 5 (.tmp 9) (.tmp 13))⟩,
             ⟨(some 3), none, .op (.move (.tmp 14))⟩]))
          (.region [⟨(some 7), none, .op (.move (.tmp 4))⟩,
            ⟨(some 8), none, .op (.bin .add (.tmp 7) (.const (.int .i64 1)))⟩,
            ⟨(some 4), none, .op (.move (.tmp 8))⟩]))))))
     (.seq
      (.region [⟨(some 15), none, .op (.move (.tmp 3))⟩,
        ⟨(some 2), none, .op (.move (.tmp 15))⟩])
      (.ret))))
def r97 : List LRes := [.tmp 2]
theorem body97 : Try.f97.body.bind (compileC Try.prog) = some c97 := by kernel_rfl
theorem res97 : compileRes Try.prog Try.f97.results.toList = some r97 := by kernel_rfl
theorem has97 : hasBody Try.prog 97 = true := by kernel_rfl
theorem enter97 {args : LVals} {h : LHeap} {R : LEnd → LHeap → Prop} (hk : 16 - lvsLen args = 15) (hw : initK args 15 fun t => lwp Try.prog h.length c97 (bodyQ r97 R) t h) : LCalls Try.prog 97 args h R := LCalls.enter Try.func97 body97 has97 res97 _ (by rw [Try.ntmps97]; exact hk) hw
/-- (*palatine/palatineref01.Disk).Now -/
def c98 : LCode :=
  .seq
   (.region [⟨(some 4), none, .op (.alloc 115 (.rows 64 1 (fun _ => (.one (.int .u8 0) .nil)) .nil))⟩])
   (.seq
    (.region [⟨(some 7), none, .op (.move (.tmp 0))⟩,
      ⟨(some 8), none, .op (.nilc (.tmp 7))⟩,
      ⟨(some 9), none, .op (.field 0 (.tmp 8))⟩,
      ⟨(some 10), none, .op (.load none (.tmp 9))⟩,
      ⟨(some 11), none, .op (.move (.tmp 1))⟩,
      ⟨(some 12), none, .op (.idxSl 64 (.tmp 10) (.tmp 11))⟩,
      ⟨(some 13), none, .op (.load (some 64) (.tmp 12))⟩,
      ⟨(some 5), none, .op (.alloc 115 (.rows 64 1 (fun _ => (.one (.int .u8 0) .nil)) .nil))⟩,
      ⟨none, none, .op (.store 64 (.tmp 5) (.tmp 13))⟩])
    (.seq
     (.seq
      (.region [⟨(some 6), none, .op (.move (.const (.int .i64 0)))⟩])
      (.block 0
       (.loop
        (.seq
         (.seq
          (.region [⟨(some 14), none, .op (.move (.tmp 6))⟩,
            ⟨(some 15), none, .op (.move (.tmp 0))⟩,
            ⟨(some 16), none, .op (.nilc (.tmp 15))⟩,
            ⟨(some 17), none, .op (.field 1 (.tmp 16))⟩,
            ⟨(some 18), none, .op (.load none (.tmp 17))⟩,
            ⟨(some 19), none, .op (.lenSl (.tmp 18))⟩,
            ⟨(some 20), none, .op (.bin .lss (.tmp 14) (.tmp 19))⟩])
          (.cond (.tmp 20)
           (.skip)
           (.exit 0)))
         (.seq
          (.block 1
           (.seq
            (.region [⟨(some 23), none, .op (.move (.tmp 0))⟩,
              ⟨(some 24), none, .op (.nilc (.tmp 23))⟩,
              ⟨(some 25), none, .op (.field 1 (.tmp 24))⟩,
              ⟨(some 26), none, .op (.load none (.tmp 25))⟩,
              ⟨(some 27), none, .op (.move (.tmp 6))⟩,
              ⟨(some 28), none, .op (.idxSl 65 (.tmp 26) (.tmp 27))⟩,
              ⟨(some 29), none, .op (.field 0 (.tmp 28))⟩,
              ⟨(some 30), none, .op (.load none (.tmp 29))⟩,
              ⟨(some 31), none, .op (.move (.tmp 1))⟩,
              ⟨(some 32), none, .op (.bin .eql (.tmp 30) (.tmp 31))⟩])
            (.cond (.tmp 32)
             (.region [⟨(some 33), none, .op (.move (.tmp 0))⟩,
               ⟨(some 34), none, .op (.nilc (.tmp 33))⟩,
               ⟨(some 35), none, .op (.field 1 (.tmp 34))⟩,
               ⟨(some 36), none, .op (.load none (.tmp 35))⟩,
               ⟨(some 37), none, .op (.move (.tmp 6))⟩,
               ⟨(some 38), none, .op (.idxSl 65 (.tmp 36) (.tmp 37))⟩,
               ⟨(some 39), none, .op (.field 1 (.tmp 38))⟩,
               ⟨(some 40), none, .op (.load (some 64) (.tmp 39))⟩,
               ⟨none, none, .op (.store 64 (.tmp 5) (.tmp 40))⟩])
             (.skip))))
          (.region [⟨(some 21), none, .op (.move (.tmp 6))⟩,
            ⟨(some 22), none, .op (.bin .add (.tmp 21) (.const (.int .i64 1)))⟩,
            ⟨(some 6), none, .op (.move (.tmp 22))⟩]))))))
     (.seq
      (.region [⟨(some 41), none, .op (.load (some 64) (.tmp 5))⟩,
        ⟨none, none, .op (.store 64 (.tmp 4) (.tmp 41))⟩])
      (.ret))))
def r98 : List LRes := [.cell 4 (some 64)]
theorem body98 : Try.f98.body.bind (compileC Try.prog) = some c98 := by kernel_rfl
theorem res98 : compileRes Try.prog Try.f98.results.toList = some r98 := by kernel_rfl
theorem has98 : hasBody Try.prog 98 = true := by kernel_rfl
theorem enter98 {args : LVals} {h : LHeap} {R : LEnd → LHeap → Prop} (hk : 42 - lvsLen args = 40) (hw : initK args 40 fun t => lwp Try.prog h.length c98 (bodyQ r98 R) t h) : LCalls Try.prog 98 args h R := LCalls.enter Try.func98 body98 has98 res98 _ (by rw [Try.ntmps98]; exact hk) hw
/-- (*palatine/palatineref01.Disk).goes -/
def c99 : LCode :=
  .seq
   (.region [⟨(some 2), none, .op (.move (.const (.bool false)))⟩])
   (.seq
    (.seq
     (.region [⟨(some 3), none, .op (.move (.tmp 0))⟩,
       ⟨(some 4), none, .op (.nilc (.tmp 3))⟩,
       ⟨(some 5), none, .op (.field 3 (.tmp 4))⟩,
       ⟨(some 6), none, .op (.load none (.tmp 5))⟩,
       ⟨(some 7), none, .op (.bin .eql (.tmp 6) (.const (.int .i64 0)))⟩])
     (.cond (.tmp 7)
      (.seq
       (.region [⟨(some 8), none, .op (.move (.tmp 0))⟩,
         ⟨(some 9), none, .op (.nilc (.tmp 8))⟩,
         ⟨(some 10), none, .op (.field 2 (.tmp 9))⟩,
         ⟨none, none, .op (.store 1 (.tmp 10) (.const (.bool true)))⟩])
       (.seq
        (.region [⟨(some 2), none, .op (.move (.const (.bool false)))⟩])
        (.ret)))
      (.skip)))
    (.seq
     (.seq
      (.region [⟨(some 11), none, .op (.move (.tmp 0))⟩,
        ⟨(some 12), none, .op (.nilc (.tmp 11))⟩,
        ⟨(some 13), none, .op (.field 3 (.tmp 12))⟩,
        ⟨(some 14), none, .op (.load none (.tmp 13))⟩,
        ⟨(some 15), none, .op (.bin .gtr (.tmp 14) (.const (.int .i64 0)))⟩])
      (.cond (.tmp 15)
       (.region [⟨(some 16), none, .op (.move (.tmp 0))⟩,
         ⟨(some 17), none, .op (.move (.tmp 0))⟩,
         ⟨(some 18), none, .op (.nilc (.tmp 17))⟩,
         ⟨(some 19), none, .op (.field 3 (.tmp 18))⟩,
         ⟨(some 20), none, .op (.load none (.tmp 19))⟩,
         ⟨(some 21), none, .op (.bin .sub (.tmp 20) (.const (.int .i64 1)))⟩,
         ⟨(some 22), none, .op (.nilc (.tmp 16))⟩,
         ⟨(some 23), none, .op (.field 3 (.tmp 22))⟩,
         ⟨none, none, .op (.store 1 (.tmp 23) (.tmp 21))⟩])
       (.skip)))
     (.seq
      (.region [⟨(some 2), none, .op (.move (.const (.bool true)))⟩])
      (.ret))))
def r99 : List LRes := [.tmp 2]
theorem body99 : Try.f99.body.bind (compileC Try.prog) = some c99 := by kernel_rfl
theorem res99 : compileRes Try.prog Try.f99.results.toList = some r99 := by kernel_rfl
theorem has99 : hasBody Try.prog 99 = true := by kernel_rfl
theorem enter99 {args : LVals} {h : LHeap} {R : LEnd → LHeap → Prop} (hk : 24 - lvsLen args = 23) (hw : initK args 23 fun t => lwp Try.prog h.length c99 (bodyQ r99 R) t h) : LCalls Try.prog 99 args h R := LCalls.enter Try.func99 body99 has99 res99 _ (by rw [Try.ntmps99]; exact hk) hw
/-- palatine/palatinelaw01.awake -/
def c21 : LCode :=
  .seq
   (.region [⟨(some 0), none, .op (.move (.const (.bool false)))⟩])
   (.seq
    (.region [⟨(some 21), none, .call 22 [(.const (.int .i64 2))]⟩,
      ⟨(some 20), none, .op (.move (.tmp 21))⟩,
      ⟨(some 22), none, .op (.ext 0 (.tmp 20))⟩,
      ⟨(some 23), none, .op (.ext 1 (.tmp 20))⟩,
      ⟨(some 1), none, .op (.move (.tmp 22))⟩,
      ⟨(some 2), none, .op (.move (.tmp 23))⟩])
    (.seq
     (.seq
      (.region [⟨(some 24), none, .op (.move (.tmp 1))⟩,
        ⟨(some 25), none, .op (.peq false (.tmp 24) (.const .nilp))⟩,
        ⟨(some 26), none, .op (.move (.tmp 25))⟩,
        ⟨(some 27), some (26, false), .op (.move (.tmp 2))⟩,
        ⟨(some 28), some (26, false), .op (.bin .neq (.tmp 27) (.const (.int .i64 0)))⟩,
        ⟨(some 29), none, .op (.pick (.tmp 26) (.const (.bool true)) (.tmp 28))⟩])
      (.cond (.tmp 29)
       (.seq
        (.region [⟨(some 0), none, .op (.move (.const (.bool false)))⟩])
        (.ret))
       (.skip)))
     (.seq
      (.region [⟨(some 30), none, .op (.move (.tmp 1))⟩,
        ⟨(some 31), none, .op (.bsl 1 1 5 (.one (.int .u8 0) .nil) [(0, (.const (.int .u8 1)))])⟩,
        ⟨(some 32), none, .call 26 [(.tmp 30), (.const (.int .i64 0)), (.tmp 31)]⟩,
        ⟨(some 3), none, .op (.move (.tmp 32))⟩])
      (.seq
       (.region [⟨(some 33), none, .op (.move (.tmp 1))⟩,
         ⟨(some 34), none, .op (.bsl 1 1 5 (.one (.int .u8 0) .nil) [(0, (.const (.int .u8 2)))])⟩,
         ⟨(some 35), none, .call 26 [(.tmp 33), (.const (.int .i64 0)), (.tmp 34)]⟩,
         ⟨(some 4), none, .op (.move (.tmp 35))⟩])
       (.seq
        (.region [⟨(some 36), none, .op (.move (.tmp 1))⟩,
          ⟨(some 37), none, .op (.bsl 1 1 5 (.one (.int .u8 0) .nil) [(0, (.const (.int .u8 3)))])⟩,
          ⟨(some 38), none, .call 26 [(.tmp 36), (.const (.int .i64 1)), (.tmp 37)]⟩,
          ⟨(some 5), none, .op (.move (.tmp 38))⟩])
        (.seq
         (.region [⟨(some 39), none, .op (.move (.tmp 1))⟩,
           ⟨(some 40), none, .call 32 [(.tmp 39)]⟩,
           ⟨(some 6), none, .op (.move (.tmp 40))⟩])
         (.seq
          (.region [⟨(some 41), none, .op (.move (.tmp 1))⟩,
            ⟨(some 42), none, .op (.bsl 1 3 4 (.one (.bool false) .nil) [(0, (.const (.bool true))), (1, (.const (.bool false))), (2, (.const (.bool true)))])⟩,
            ⟨(some 43), none, .call 27 [(.tmp 41), (.tmp 42)]⟩,
            ⟨(some 7), none, .op (.move (.tmp 43))⟩])
          (.seq
           (.region [⟨(some 45), none, .op (.move (.tmp 1))⟩,
             ⟨(some 46), none, .call 24 [(.tmp 45), (.const (.int .i64 0))]⟩,
             ⟨(some 44), none, .op (.move (.tmp 46))⟩,
             ⟨(some 47), none, .op (.ext 0 (.tmp 44))⟩,
             ⟨(some 48), none, .op (.ext 1 (.tmp 44))⟩,
             ⟨(some 8), none, .op (.move (.tmp 47))⟩,
             ⟨(some 9), none, .op (.move (.tmp 48))⟩])
           (.seq
            (.region [⟨(some 50), none, .op (.move (.tmp 1))⟩,
              ⟨(some 51), none, .call 24 [(.tmp 50), (.const (.int .i64 1))]⟩,
              ⟨(some 49), none, .op (.move (.tmp 51))⟩,
              ⟨(some 52), none, .op (.ext 0 (.tmp 49))⟩,
              ⟨(some 53), none, .op (.ext 1 (.tmp 49))⟩,
              ⟨(some 10), none, .op (.move (.tmp 52))⟩,
              ⟨(some 11), none, .op (.move (.tmp 53))⟩])
            (.seq
             (.region [⟨(some 54), none, .op (.move (.tmp 1))⟩,
               ⟨(some 55), none, .call 23 [(.tmp 54), (.const (.int .i64 1))]⟩,
               ⟨(some 12), none, .op (.move (.tmp 55))⟩])
             (.seq
              (.region [⟨(some 56), none, .op (.move (.tmp 1))⟩,
                ⟨(some 57), none, .op (.bsl 1 1 5 (.one (.int .u8 0) .nil) [(0, (.const (.int .u8 5)))])⟩,
                ⟨(some 58), none, .call 26 [(.tmp 56), (.const (.int .i64 1)), (.tmp 57)]⟩,
                ⟨(some 13), none, .op (.move (.tmp 58))⟩])
              (.seq
               (.region [⟨(some 59), none, .op (.move (.tmp 1))⟩,
                 ⟨(some 60), none, .call 25 [(.tmp 59)]⟩,
                 ⟨(some 14), none, .op (.move (.tmp 60))⟩])
               (.seq
                (.region [⟨(some 61), none, .op (.move (.tmp 1))⟩,
                  ⟨(some 62), none, .call 28 [(.tmp 61)]⟩,
                  ⟨(some 15), none, .op (.move (.tmp 62))⟩])
                (.seq
                 (.region [⟨(some 64), none, .op (.move (.tmp 1))⟩,
                   ⟨(some 65), none, .call 24 [(.tmp 64), (.const (.int .i64 1))]⟩,
                   ⟨(some 63), none, .op (.move (.tmp 65))⟩,
                   ⟨(some 66), none, .op (.ext 0 (.tmp 63))⟩,
                   ⟨(some 67), none, .op (.ext 1 (.tmp 63))⟩,
                   ⟨(some 16), none, .op (.move (.tmp 66))⟩,
                   ⟨(some 17), none, .op (.move (.tmp 67))⟩])
                 (.seq
                  (.region [⟨(some 69), none, .call 22 [(.const (.int .i64 0))]⟩,
                    ⟨(some 68), none, .op (.move (.tmp 69))⟩,
                    ⟨(some 70), none, .op (.ext 0 (.tmp 68))⟩,
                    ⟨(some 71), none, .op (.ext 1 (.tmp 68))⟩,
                    ⟨(some 18), none, .op (.move (.tmp 70))⟩,
                    ⟨(some 19), none, .op (.move (.tmp 71))⟩])
                  (.seq
                   (.region [⟨(some 72), none, .op (.move (.tmp 3))⟩,
                     ⟨(some 73), none, .op (.bin .eql (.tmp 72) (.const (.int .i64 0)))⟩,
                     ⟨(some 74), none, .op (.move (.tmp 73))⟩,
                     ⟨(some 75), some (74, true), .op (.move (.tmp 4))⟩,
                     ⟨(some 76), some (74, true), .op (.bin .eql (.tmp 75) (.const (.int .i64 0)))⟩,
                     ⟨(some 77), none, .op (.pick (.tmp 74) (.tmp 76) (.const (.bool false)))⟩,
                     ⟨(some 78), none, .op (.move (.tmp 77))⟩,
                     ⟨(some 79), some (78, true), .op (.move (.tmp 5))⟩,
                     ⟨(some 80), some (78, true), .op (.bin .eql (.tmp 79) (.const (.int .i64 0)))⟩,
                     ⟨(some 81), none, .op (.pick (.tmp 78) (.tmp 80) (.const (.bool false)))⟩,
                     ⟨(some 82), none, .op (.move (.tmp 81))⟩,
                     ⟨(some 83), some (82, true), .op (.move (.tmp 6))⟩,
                     ⟨(some 84), some (82, true), .op (.bin .eql (.tmp 83) (.const (.int .i64 3)))⟩,
                     ⟨(some 85), none, .op (.pick (.tmp 82) (.tmp 84) (.const (.bool false)))⟩,
                     ⟨(some 86), none, .op (.move (.tmp 85))⟩,
                     ⟨(some 87), some (86, true), .op (.move (.tmp 7))⟩,
                     ⟨(some 88), some (86, true), .op (.bin .eql (.tmp 87) (.const (.int .i64 2)))⟩,
                     ⟨(some 89), none, .op (.pick (.tmp 86) (.tmp 88) (.const (.bool false)))⟩,
                     ⟨(some 90), none, .op (.move (.tmp 89))⟩,
                     ⟨(some 91), some (90, true), .op (.move (.tmp 8))⟩,
                     ⟨(some 92), some (90, true), .op (.lenSl (.tmp 91))⟩,
                     ⟨(some 93), some (90, true), .op (.bin .eql (.tmp 92) (.const (.int .i64 64)))⟩,
                     ⟨(some 94), none, .op (.pick (.tmp 90) (.tmp 93) (.const (.bool false)))⟩,
                     ⟨(some 95), none, .op (.move (.tmp 94))⟩,
                     ⟨(some 96), some (95, true), .op (.move (.tmp 8))⟩,
                     ⟨(some 97), some (95, true), .op (.idxSl 1 (.tmp 96) (.const (.int .i64 0)))⟩,
                     ⟨(some 98), some (95, true), .op (.load none (.tmp 97))⟩,
                     ⟨(some 99), some (95, true), .op (.bin .eql (.tmp 98) (.const (.int .u8 1)))⟩,
                     ⟨(some 100), none, .op (.pick (.tmp 95) (.tmp 99) (.const (.bool false)))⟩,
                     ⟨(some 101), none, .op (.move (.tmp 100))⟩,
                     ⟨(some 102), some (101, true), .op (.move (.tmp 8))⟩,
                     ⟨(some 103), some (101, true), .op (.idxSl 1 (.tmp 102) (.const (.int .i64 1)))⟩,
                     ⟨(some 104), some (101, true), .op (.load none (.tmp 103))⟩,
                     ⟨(some 105), some (101, true), .op (.bin .eql (.tmp 104) (.const (.int .u8 0)))⟩,
                     ⟨(some 106), none, .op (.pick (.tmp 101) (.tmp 105) (.const (.bool false)))⟩,
                     ⟨(some 107), none, .op (.move (.tmp 106))⟩,
                     ⟨(some 108), some (107, true), .op (.move (.tmp 10))⟩,
                     ⟨(some 109), some (107, true), .op (.lenSl (.tmp 108))⟩,
                     ⟨(some 110), some (107, true), .op (.bin .eql (.tmp 109) (.const (.int .i64 64)))⟩,
                     ⟨(some 111), none, .op (.pick (.tmp 107) (.tmp 110) (.const (.bool false)))⟩,
                     ⟨(some 112), none, .op (.move (.tmp 111))⟩,
                     ⟨(some 113), some (112, true), .op (.move (.tmp 10))⟩,
                     ⟨(some 114), some (112, true), .op (.idxSl 1 (.tmp 113) (.const (.int .i64 0)))⟩,
                     ⟨(some 115), some (112, true), .op (.load none (.tmp 114))⟩,
                     ⟨(some 116), some (112, true), .op (.bin .eql (.tmp 115) (.const (.int .u8 3)))⟩,
                     ⟨(some 117), none, .op (.pick (.tmp 112) (.tmp 116) (.const (.bool false)))⟩,
                     ⟨(some 118), none, .op (.move (.tmp 117))⟩,
                     ⟨(some 119), some (118, true), .op (.move (.tmp 9))⟩,
                     ⟨(some 120), some (118, true), .op (.bin .eql (.tmp 119) (.const (.int .i64 0)))⟩,
                     ⟨(some 121), none, .op (.pick (.tmp 118) (.tmp 120) (.const (.bool false)))⟩,
                     ⟨(some 122), none, .op (.move (.tmp 121))⟩,
                     ⟨(some 123), some (122, true), .op (.move (.tmp 11))⟩,
                     ⟨(some 124), some (122, true), .op (.bin .eql (.tmp 123) (.const (.int .i64 0)))⟩,
                     ⟨(some 125), none, .op (.pick (.tmp 122) (.tmp 124) (.const (.bool false)))⟩,
                     ⟨(some 126), none, .op (.move (.tmp 125))⟩,
                     ⟨(some 127), some (126, true), .op (.move (.tmp 12))⟩,
                     ⟨(some 128), some (126, true), .op (.bin .eql (.tmp 127) (.const (.int .i64 0)))⟩,
                     ⟨(some 129), none, .op (.pick (.tmp 126) (.tmp 128) (.const (.bool false)))⟩,
                     ⟨(some 130), none, .op (.move (.tmp 129))⟩,
                     ⟨(some 131), some (130, true), .op (.move (.tmp 13))⟩,
                     ⟨(some 132), some (130, true), .op (.bin .eql (.tmp 131) (.const (.int .i64 0)))⟩,
                     ⟨(some 133), none, .op (.pick (.tmp 130) (.tmp 132) (.const (.bool false)))⟩,
                     ⟨(some 134), none, .op (.move (.tmp 133))⟩,
                     ⟨(some 135), some (134, true), .op (.move (.tmp 14))⟩,
                     ⟨(some 136), some (134, true), .op (.bin .eql (.tmp 135) (.const (.int .i64 10)))⟩,
                     ⟨(some 137), none, .op (.pick (.tmp 134) (.tmp 136) (.const (.bool false)))⟩,
                     ⟨(some 138), none, .op (.move (.tmp 137))⟩,
                     ⟨(some 139), some (138, true), .op (.move (.tmp 15))⟩,
                     ⟨(some 140), some (138, true), .op (.un .not (.tmp 139))⟩,
                     ⟨(some 141), none, .op (.pick (.tmp 138) (.tmp 140) (.const (.bool false)))⟩,
                     ⟨(some 142), none, .op (.move (.tmp 141))⟩,
                     ⟨(some 143), some (142, true), .op (.move (.tmp 17))⟩,
                     ⟨(some 144), some (142, true), .op (.bin .eql (.tmp 143) (.const (.int .i64 10)))⟩,
                     ⟨(some 145), none, .op (.pick (.tmp 142) (.tmp 144) (.const (.bool false)))⟩,
                     ⟨(some 146), none, .op (.move (.tmp 145))⟩,
                     ⟨(some 147), some (146, true), .op (.move (.tmp 18))⟩,
                     ⟨(some 148), some (146, true), .op (.peq false (.tmp 147) (.const .nilp))⟩,
                     ⟨(some 149), none, .op (.pick (.tmp 146) (.tmp 148) (.const (.bool false)))⟩,
                     ⟨(some 150), none, .op (.move (.tmp 149))⟩,
                     ⟨(some 151), some (150, true), .op (.move (.tmp 19))⟩,
                     ⟨(some 152), some (150, true), .op (.bin .eql (.tmp 151) (.const (.int .i64 1)))⟩,
                     ⟨(some 153), none, .op (.pick (.tmp 150) (.tmp 152) (.const (.bool false)))⟩,
                     ⟨(some 0), none, .op (.move (.tmp 153))⟩])
                   (.ret)))))))))))))))))
def r21 : List LRes := [.tmp 0]
theorem body21 : Try.f21.body.bind (compileC Try.prog) = some c21 := by kernel_rfl
theorem res21 : compileRes Try.prog Try.f21.results.toList = some r21 := by kernel_rfl
theorem has21 : hasBody Try.prog 21 = true := by kernel_rfl
theorem enter21 {args : LVals} {h : LHeap} {R : LEnd → LHeap → Prop} (hk : 154 - lvsLen args = 154) (hw : initK args 154 fun t => lwp Try.prog h.length c21 (bodyQ r21 R) t h) : LCalls Try.prog 21 args h R := LCalls.enter Try.func21 body21 has21 res21 _ (by rw [Try.ntmps21]; exact hk) hw
/-- palatine/palatinelaw01.played -/
def c29 : LCode :=
  .seq
   (.region [⟨(some 4), none, .op (.move (.const .nilp))⟩,
     ⟨(some 5), none, .op (.move (.const .nilp))⟩])
   (.seq
    (.region [⟨(some 12), none, .op (.move (.tmp 0))⟩,
      ⟨(some 13), none, .call 22 [(.tmp 12)]⟩,
      ⟨(some 11), none, .op (.move (.tmp 13))⟩,
      ⟨(some 14), none, .op (.ext 0 (.tmp 11))⟩,
      ⟨(some 15), none, .op (.ext 1 (.tmp 11))⟩,
      ⟨(some 6), none, .op (.move (.tmp 14))⟩,
      ⟨(some 7), none, .op (.move (.tmp 15))⟩])
    (.seq
     (.region [⟨(some 17), none, .op (.move (.tmp 0))⟩,
       ⟨(some 18), none, .call 33 [(.tmp 17)]⟩,
       ⟨(some 16), none, .op (.move (.tmp 18))⟩,
       ⟨(some 19), none, .op (.ext 0 (.tmp 16))⟩,
       ⟨(some 20), none, .op (.ext 1 (.tmp 16))⟩,
       ⟨(some 8), none, .op (.move (.tmp 19))⟩,
       ⟨(some 9), none, .op (.move (.tmp 20))⟩])
     (.seq
      (.seq
       (.region [⟨(some 10), none, .op (.move (.const (.int .i64 0)))⟩])
       (.block 0
        (.loop
         (.seq
          (.seq
           (.region [⟨(some 21), none, .op (.move (.tmp 10))⟩,
             ⟨(some 22), none, .op (.move (.tmp 1))⟩,
             ⟨(some 23), none, .op (.lenSl (.tmp 22))⟩,
             ⟨(some 24), none, .op (.bin .lss (.tmp 21) (.tmp 23))⟩,
             ⟨(some 25), none, .op (.move (.tmp 24))⟩,
             ⟨(some 26), some (25, true), .op (.move (.tmp 10))⟩,
             ⟨(some 27), some (25, true), .op (.bin .lss (.tmp 26) (.const (.int .i64 200)))⟩,
             ⟨(some 28), none, .op (.pick (.tmp 25) (.tmp 27) (.const (.bool false)))⟩,
             ⟨(some 29), none, .op (.move (.tmp 28))⟩,
             ⟨(some 30), some (29, true), .op (.move (.tmp 6))⟩,
             ⟨(some 31), some (29, true), .op (.peq true (.tmp 30) (.const .nilp))⟩,
             ⟨(some 32), none, .op (.pick (.tmp 29) (.tmp 31) (.const (.bool false)))⟩,
             ⟨(some 33), none, .op (.move (.tmp 32))⟩,
             ⟨(some 34), some (33, true), .op (.move (.tmp 8))⟩,
             ⟨(some 35), some (33, true), .op (.peq true (.tmp 34) (.const .nilp))⟩,
             ⟨(some 36), none, .op (.pick (.tmp 33) (.tmp 35) (.const (.bool false)))⟩])
           (.cond (.tmp 36)
            (.skip)
            (.exit 0)))
          (.seq
           (.block 1
            (.region [⟨(some 39), none, .op (.move (.tmp 6))⟩,
              ⟨(some 40), none, .op (.move (.tmp 8))⟩,
              ⟨(some 41), none, .op (.move (.tmp 1))⟩,
              ⟨(some 42), none, .op (.move (.tmp 10))⟩,
              ⟨(some 43), none, .op (.idxSl 4 (.tmp 41) (.tmp 42))⟩,
              ⟨(some 44), none, .op (.load (some 4) (.tmp 43))⟩,
              ⟨(some 45), none, .call 34 [(.tmp 39), (.tmp 40), (.tmp 44)]⟩]))
           (.region [⟨(some 37), none, .op (.move (.tmp 10))⟩,
             ⟨(some 38), none, .op (.bin .add (.tmp 37) (.const (.int .i64 1)))⟩,
             ⟨(some 10), none, .op (.move (.tmp 38))⟩]))))))
      (.seq
       (.region [⟨(some 46), none, .op (.move (.tmp 6))⟩,
         ⟨(some 47), none, .op (.move (.tmp 8))⟩,
         ⟨(some 4), none, .op (.move (.tmp 46))⟩,
         ⟨(some 5), none, .op (.move (.tmp 47))⟩])
       (.ret)))))
def r29 : List LRes := [.tmp 4, .tmp 5]
theorem body29 : Try.f29.body.bind (compileC Try.prog) = some c29 := by kernel_rfl
theorem res29 : compileRes Try.prog Try.f29.results.toList = some r29 := by kernel_rfl
theorem has29 : hasBody Try.prog 29 = true := by kernel_rfl
theorem enter29 {args : LVals} {h : LHeap} {R : LEnd → LHeap → Prop} (hk : 48 - lvsLen args = 46) (hw : initK args 46 fun t => lwp Try.prog h.length c29 (bodyQ r29 R) t h) : LCalls Try.prog 29 args h R := LCalls.enter Try.func29 body29 has29 res29 _ (by rw [Try.ntmps29]; exact hk) hw
/-- palatine/palatinelaw01.does -/
def c34 : LCode :=
  .seq
   (.region [⟨(some 5), none, .op (.box 52 4 (.tmp 2))⟩,
     ⟨(some 6), none, .op (.move (.const (.bool false)))⟩])
   (.seq
    (.seq
     (.region [⟨(some 27), none, .op (.field 0 (.tmp 5))⟩,
       ⟨(some 28), none, .op (.load none (.tmp 27))⟩])
     (.block 0
      (.seq
       (.region [⟨(some 30), none, .op (.bin .eql (.tmp 28) (.const (.int .i64 1)))⟩,
         ⟨(some 29), none, .op (.move (.tmp 30))⟩])
       (.cond (.tmp 29)
        (.seq
         (.region [⟨(some 32), none, .op (.move (.tmp 0))⟩,
           ⟨(some 33), none, .op (.field 1 (.tmp 5))⟩,
           ⟨(some 34), none, .op (.load none (.tmp 33))⟩,
           ⟨(some 35), none, .call 24 [(.tmp 32), (.tmp 34)]⟩,
           ⟨(some 31), none, .op (.move (.tmp 35))⟩,
           ⟨(some 36), none, .op (.ext 0 (.tmp 31))⟩,
           ⟨(some 37), none, .op (.ext 1 (.tmp 31))⟩,
           ⟨(some 7), none, .op (.move (.tmp 36))⟩,
           ⟨(some 8), none, .op (.move (.tmp 37))⟩])
         (.seq
          (.region [⟨(some 39), none, .op (.move (.tmp 1))⟩,
            ⟨(some 40), none, .op (.field 1 (.tmp 5))⟩,
            ⟨(some 41), none, .op (.load none (.tmp 40))⟩,
            ⟨(some 42), none, .call 66 [(.tmp 39), (.tmp 41)]⟩,
            ⟨(some 38), none, .op (.move (.tmp 42))⟩,
            ⟨(some 43), none, .op (.ext 0 (.tmp 38))⟩,
            ⟨(some 44), none, .op (.ext 1 (.tmp 38))⟩,
            ⟨(some 9), none, .op (.move (.tmp 43))⟩,
            ⟨(some 10), none, .op (.move (.tmp 44))⟩])
          (.seq
           (.region [⟨(some 45), none, .op (.move (.tmp 7))⟩,
             ⟨(some 46), none, .op (.move (.tmp 9))⟩,
             ⟨(some 47), none, .call 30 [(.tmp 45), (.tmp 46)]⟩,
             ⟨(some 11), none, .op (.move (.tmp 47))⟩])
           (.seq
            (.region [⟨(some 48), none, .op (.move (.tmp 11))⟩,
              ⟨(some 49), none, .op (.move (.tmp 48))⟩,
              ⟨(some 50), some (49, true), .op (.move (.tmp 8))⟩,
              ⟨(some 51), some (49, true), .op (.move (.tmp 10))⟩,
              ⟨(some 52), some (49, true), .op (.bin .eql (.tmp 50) (.tmp 51))⟩,
              ⟨(some 53), none, .op (.pick (.tmp 49) (.tmp 52) (.const (.bool false)))⟩,
              ⟨(some 6), none, .op (.move (.tmp 53))⟩])
            (.ret)))))
        (.seq
         (.region [⟨(some 55), none, .op (.bin .eql (.tmp 28) (.const (.int .i64 2)))⟩,
           ⟨(some 54), none, .op (.move (.tmp 55))⟩])
         (.cond (.tmp 54)
          (.seq
           (.region [⟨(some 57), none, .op (.move (.tmp 0))⟩,
             ⟨(some 58), none, .op (.field 1 (.tmp 5))⟩,
             ⟨(some 59), none, .op (.load none (.tmp 58))⟩,
             ⟨(some 60), none, .call 31 [(.tmp 57), (.tmp 59)]⟩,
             ⟨(some 56), none, .op (.move (.tmp 60))⟩,
             ⟨(some 61), none, .op (.ext 0 (.tmp 56))⟩,
             ⟨(some 62), none, .op (.ext 1 (.tmp 56))⟩,
             ⟨(some 12), none, .op (.move (.tmp 61))⟩,
             ⟨(some 13), none, .op (.move (.tmp 62))⟩])
           (.seq
            (.region [⟨(some 64), none, .op (.move (.tmp 1))⟩,
              ⟨(some 65), none, .op (.field 1 (.tmp 5))⟩,
              ⟨(some 66), none, .op (.load none (.tmp 65))⟩,
              ⟨(some 67), none, .call 67 [(.tmp 64), (.tmp 66)]⟩,
              ⟨(some 63), none, .op (.move (.tmp 67))⟩,
              ⟨(some 68), none, .op (.ext 0 (.tmp 63))⟩,
              ⟨(some 69), none, .op (.ext 1 (.tmp 63))⟩,
              ⟨(some 14), none, .op (.move (.tmp 68))⟩,
              ⟨(some 15), none, .op (.move (.tmp 69))⟩])
            (.seq
             (.region [⟨(some 70), none, .op (.move (.tmp 12))⟩,
               ⟨(some 71), none, .op (.move (.tmp 14))⟩,
               ⟨(some 72), none, .call 30 [(.tmp 70), (.tmp 71)]⟩,
               ⟨(some 16), none, .op (.move (.tmp 72))⟩])
             (.seq
              (.region [⟨(some 73), none, .op (.move (.tmp 16))⟩,
                ⟨(some 74), none, .op (.move (.tmp 73))⟩,
                ⟨(some 75), some (74, true), .op (.move (.tmp 13))⟩,
                ⟨(some 76), some (74, true), .op (.move (.tmp 15))⟩,
                ⟨(some 77), some (74, true), .op (.bin .eql (.tmp 75) (.tmp 76))⟩,
                ⟨(some 78), none, .op (.pick (.tmp 74) (.tmp 77) (.const (.bool false)))⟩,
                ⟨(some 6), none, .op (.move (.tmp 78))⟩])
              (.ret)))))
          (.seq
           (.region [⟨(some 80), none, .op (.bin .eql (.tmp 28) (.const (.int .i64 3)))⟩,
             ⟨(some 79), none, .op (.move (.tmp 80))⟩])
           (.cond (.tmp 79)
            (.seq
             (.region [⟨(some 81), none, .op (.bsl 1 0 5 (.one (.int .u8 0) .nil) [])⟩,
               ⟨(some 82), none, .op (.field 2 (.tmp 5))⟩,
               ⟨(some 83), none, .op (.load none (.tmp 82))⟩,
               ⟨(some 84), none, .op (.app 1 1 5 (.tmp 81) (.tmp 83))⟩,
               ⟨(some 17), none, .op (.move (.tmp 84))⟩])
             (.seq
              (.region [⟨(some 85), none, .op (.move (.tmp 0))⟩,
                ⟨(some 86), none, .op (.field 1 (.tmp 5))⟩,
                ⟨(some 87), none, .op (.load none (.tmp 86))⟩,
                ⟨(some 88), none, .op (.move (.tmp 17))⟩,
                ⟨(some 89), none, .call 26 [(.tmp 85), (.tmp 87), (.tmp 88)]⟩,
                ⟨(some 18), none, .op (.move (.tmp 89))⟩])
              (.seq
               (.region [⟨(some 90), none, .op (.move (.tmp 1))⟩,
                 ⟨(some 91), none, .op (.field 1 (.tmp 5))⟩,
                 ⟨(some 92), none, .op (.load none (.tmp 91))⟩,
                 ⟨(some 93), none, .op (.field 2 (.tmp 5))⟩,
                 ⟨(some 94), none, .op (.load none (.tmp 93))⟩,
                 ⟨(some 95), none, .call 68 [(.tmp 90), (.tmp 92), (.tmp 94)]⟩,
                 ⟨(some 19), none, .op (.move (.tmp 95))⟩])
               (.seq
                (.seq
                 (.region [⟨(some 20), none, .op (.move (.const (.int .i64 0)))⟩])
                 (.block 1
                  (.loop
                   (.seq
                    (.seq
                     (.region [⟨(some 96), none, .op (.move (.tmp 20))⟩,
                       ⟨(some 97), none, .op (.move (.tmp 17))⟩,
                       ⟨(some 98), none, .op (.lenSl (.tmp 97))⟩,
                       ⟨(some 99), none, .op (.bin .lss (.tmp 96) (.tmp 98))⟩])
                     (.cond (.tmp 99)
                      (.skip)
                      (.exit 1)))
                    (.seq
                     (.block 2
                      (.region [⟨(some 102), none, .op (.move (.tmp 17))⟩,
                        ⟨(some 103), none, .op (.move (.tmp 20))⟩,
                        ⟨(some 104), none, .op (.move (.tmp 17))⟩,
                        ⟨(some 105), none, .op (.move (.tmp 20))⟩,
                        ⟨(some 106), none, .op (.idxSl 1 (.tmp 104) (.tmp 105))⟩,
                        ⟨(some 107), none, .op (.load none (.tmp 106))⟩,
                        ⟨(some 108), none, .op (.bin .add (.tmp 107) (.const (.int .u8 1)))⟩,
                        ⟨(some 109), none, .op (.idxSl 1 (.tmp 102) (.tmp 103))⟩,
                        ⟨none, none, .op (.store 1 (.tmp 109) (.tmp 108))⟩]))
                     (.region [⟨(some 100), none, .op (.move (.tmp 20))⟩,
                       ⟨(some 101), none, .op (.bin .add (.tmp 100) (.const (.int .i64 1)))⟩,
                       ⟨(some 20), none, .op (.move (.tmp 101))⟩]))))))
                (.seq
                 (.region [⟨(some 110), none, .op (.move (.tmp 18))⟩,
                   ⟨(some 111), none, .op (.move (.tmp 19))⟩,
                   ⟨(some 112), none, .op (.bin .eql (.tmp 110) (.tmp 111))⟩,
                   ⟨(some 6), none, .op (.move (.tmp 112))⟩])
                 (.ret))))))
            (.seq
             (.region [⟨(some 114), none, .op (.bin .eql (.tmp 28) (.const (.int .i64 4)))⟩,
               ⟨(some 113), none, .op (.move (.tmp 114))⟩])
             (.cond (.tmp 113)
              (.seq
               (.region [⟨(some 115), none, .op (.move (.tmp 0))⟩,
                 ⟨(some 116), none, .call 25 [(.tmp 115)]⟩,
                 ⟨(some 21), none, .op (.move (.tmp 116))⟩])
               (.seq
                (.region [⟨(some 117), none, .op (.move (.tmp 1))⟩,
                  ⟨(some 118), none, .call 69 [(.tmp 117)]⟩,
                  ⟨(some 22), none, .op (.move (.tmp 118))⟩])
                (.seq
                 (.region [⟨(some 119), none, .op (.move (.tmp 21))⟩,
                   ⟨(some 120), none, .op (.move (.tmp 22))⟩,
                   ⟨(some 121), none, .op (.bin .eql (.tmp 119) (.tmp 120))⟩,
                   ⟨(some 6), none, .op (.move (.tmp 121))⟩])
                 (.ret))))
              (.seq
               (.region [⟨(some 123), none, .op (.bin .eql (.tmp 28) (.const (.int .i64 5)))⟩,
                 ⟨(some 122), none, .op (.move (.tmp 123))⟩])
               (.cond (.tmp 122)
                (.seq
                 (.region [⟨(some 124), none, .op (.move (.tmp 0))⟩,
                   ⟨(some 125), none, .op (.field 1 (.tmp 5))⟩,
                   ⟨(some 126), none, .op (.load none (.tmp 125))⟩,
                   ⟨(some 127), none, .call 23 [(.tmp 124), (.tmp 126)]⟩,
                   ⟨(some 23), none, .op (.move (.tmp 127))⟩])
                 (.seq
                  (.region [⟨(some 128), none, .op (.move (.tmp 1))⟩,
                    ⟨(some 129), none, .op (.field 1 (.tmp 5))⟩,
                    ⟨(some 130), none, .op (.load none (.tmp 129))⟩,
                    ⟨(some 131), none, .call 70 [(.tmp 128), (.tmp 130)]⟩,
                    ⟨(some 24), none, .op (.move (.tmp 131))⟩])
                  (.seq
                   (.region [⟨(some 132), none, .op (.move (.tmp 23))⟩,
                     ⟨(some 133), none, .op (.move (.tmp 24))⟩,
                     ⟨(some 134), none, .op (.bin .eql (.tmp 132) (.tmp 133))⟩,
                     ⟨(some 6), none, .op (.move (.tmp 134))⟩])
                   (.ret))))
                (.seq
                 (.region [⟨(some 136), none, .op (.bin .eql (.tmp 28) (.const (.int .i64 6)))⟩,
                   ⟨(some 135), none, .op (.move (.tmp 136))⟩])
                 (.cond (.tmp 135)
                  (.seq
                   (.region [⟨(some 137), none, .op (.move (.tmp 0))⟩,
                     ⟨(some 138), none, .op (.field 3 (.tmp 5))⟩,
                     ⟨(some 139), none, .op (.load none (.tmp 138))⟩,
                     ⟨(some 140), none, .call 27 [(.tmp 137), (.tmp 139)]⟩,
                     ⟨(some 25), none, .op (.move (.tmp 140))⟩])
                   (.seq
                    (.region [⟨(some 141), none, .op (.move (.tmp 1))⟩,
                      ⟨(some 142), none, .op (.field 3 (.tmp 5))⟩,
                      ⟨(some 143), none, .op (.load none (.tmp 142))⟩,
                      ⟨(some 144), none, .call 71 [(.tmp 141), (.tmp 143)]⟩,
                      ⟨(some 26), none, .op (.move (.tmp 144))⟩])
                    (.seq
                     (.region [⟨(some 145), none, .op (.move (.tmp 25))⟩,
                       ⟨(some 146), none, .op (.move (.tmp 26))⟩,
                       ⟨(some 147), none, .op (.bin .eql (.tmp 145) (.tmp 146))⟩,
                       ⟨(some 6), none, .op (.move (.tmp 147))⟩])
                     (.ret))))
                  (.skip)))))))))))))))
    (.seq
     (.region [⟨(some 6), none, .op (.move (.const (.bool true)))⟩])
     (.ret)))
def r34 : List LRes := [.tmp 6]
theorem body34 : Try.f34.body.bind (compileC Try.prog) = some c34 := by kernel_rfl
theorem res34 : compileRes Try.prog Try.f34.results.toList = some r34 := by kernel_rfl
theorem has34 : hasBody Try.prog 34 = true := by kernel_rfl
theorem enter34 {args : LVals} {h : LHeap} {R : LEnd → LHeap → Prop} (hk : 148 - lvsLen args = 145) (hw : initK args 145 fun t => lwp Try.prog h.length c34 (bodyQ r34 R) t h) : LCalls Try.prog 34 args h R := LCalls.enter Try.func34 body34 has34 res34 _ (by rw [Try.ntmps34]; exact hk) hw
/-- palatine/palatinelaw01.same -/
def c35 : LCode :=
  .seq
   (.region [⟨(some 4), none, .op (.move (.const (.bool false)))⟩])
   (.seq
    (.region [⟨(some 19), none, .op (.move (.tmp 0))⟩,
      ⟨(some 20), none, .call 32 [(.tmp 19)]⟩,
      ⟨(some 5), none, .op (.move (.tmp 20))⟩])
    (.seq
     (.region [⟨(some 21), none, .op (.move (.tmp 0))⟩,
       ⟨(some 22), none, .call 72 [(.tmp 21)]⟩,
       ⟨(some 6), none, .op (.move (.tmp 22))⟩])
     (.seq
      (.region [⟨(some 23), none, .op (.move (.tmp 0))⟩,
        ⟨(some 24), none, .call 28 [(.tmp 23)]⟩,
        ⟨(some 7), none, .op (.move (.tmp 24))⟩])
      (.seq
       (.seq
        (.region [⟨(some 25), none, .op (.move (.tmp 5))⟩,
          ⟨(some 26), none, .op (.move (.tmp 1))⟩,
          ⟨(some 27), none, .op (.nilc (.tmp 26))⟩,
          ⟨(some 28), none, .op (.field 1 (.tmp 27))⟩,
          ⟨(some 29), none, .op (.load none (.tmp 28))⟩,
          ⟨(some 30), none, .op (.lenSl (.tmp 29))⟩,
          ⟨(some 31), none, .op (.bin .neq (.tmp 25) (.tmp 30))⟩,
          ⟨(some 32), none, .op (.move (.tmp 31))⟩,
          ⟨(some 33), some (32, false), .op (.move (.tmp 6))⟩,
          ⟨(some 34), some (32, false), .op (.move (.tmp 1))⟩,
          ⟨(some 35), some (32, false), .op (.nilc (.tmp 34))⟩,
          ⟨(some 36), some (32, false), .op (.field 0 (.tmp 35))⟩,
          ⟨(some 37), some (32, false), .op (.load none (.tmp 36))⟩,
          ⟨(some 38), some (32, false), .op (.lenSl (.tmp 37))⟩,
          ⟨(some 39), some (32, false), .op (.bin .neq (.tmp 33) (.tmp 38))⟩,
          ⟨(some 40), none, .op (.pick (.tmp 32) (.const (.bool true)) (.tmp 39))⟩,
          ⟨(some 41), none, .op (.move (.tmp 40))⟩,
          ⟨(some 42), some (41, false), .op (.move (.tmp 7))⟩,
          ⟨(some 43), some (41, false), .op (.move (.tmp 1))⟩,
          ⟨(some 44), some (41, false), .op (.nilc (.tmp 43))⟩,
          ⟨(some 45), some (41, false), .op (.field 2 (.tmp 44))⟩,
          ⟨(some 46), some (41, false), .op (.load none (.tmp 45))⟩,
          ⟨(some 47), some (41, false), .op (.beq false (.tmp 42) (.tmp 46))⟩,
          ⟨(some 48), none, .op (.pick (.tmp 41) (.const (.bool true)) (.tmp 47))⟩])
        (.cond (.tmp 48)
         (.seq
          (.region [⟨(some 4), none, .op (.move (.const (.bool false)))⟩])
          (.ret))
         (.skip)))
       (.seq
        (.seq
         (.region [⟨(some 8), none, .op (.move (.const (.int .i64 0)))⟩])
         (.block 0
          (.loop
           (.seq
            (.seq
             (.region [⟨(some 49), none, .op (.move (.tmp 8))⟩,
               ⟨(some 50), none, .op (.move (.tmp 6))⟩,
               ⟨(some 51), none, .op (.bin .lss (.tmp 49) (.tmp 50))⟩,
               ⟨(some 52), none, .op (.move (.tmp 51))⟩,
               ⟨(some 53), some (52, true), .op (.move (.tmp 8))⟩,
               ⟨(some 54), some (52, true), .op (.bin .lss (.tmp 53) (.const (.int .i64 8)))⟩,
               ⟨(some 55), none, .op (.pick (.tmp 52) (.tmp 54) (.const (.bool false)))⟩])
             (.cond (.tmp 55)
              (.skip)
              (.exit 0)))
            (.seq
             (.block 1
              (.seq
               (.region [⟨(some 59), none, .op (.move (.tmp 0))⟩,
                 ⟨(some 60), none, .op (.move (.tmp 8))⟩,
                 ⟨(some 61), none, .call 24 [(.tmp 59), (.tmp 60)]⟩,
                 ⟨(some 58), none, .op (.move (.tmp 61))⟩,
                 ⟨(some 62), none, .op (.ext 0 (.tmp 58))⟩,
                 ⟨(some 63), none, .op (.ext 1 (.tmp 58))⟩,
                 ⟨(some 9), none, .op (.move (.tmp 62))⟩,
                 ⟨(some 10), none, .op (.move (.tmp 63))⟩])
               (.seq
                (.region [⟨(some 65), none, .op (.move (.tmp 1))⟩,
                  ⟨(some 66), none, .op (.move (.tmp 8))⟩,
                  ⟨(some 67), none, .call 66 [(.tmp 65), (.tmp 66)]⟩,
                  ⟨(some 64), none, .op (.move (.tmp 67))⟩,
                  ⟨(some 68), none, .op (.ext 0 (.tmp 64))⟩,
                  ⟨(some 69), none, .op (.ext 1 (.tmp 64))⟩,
                  ⟨(some 11), none, .op (.move (.tmp 68))⟩,
                  ⟨(some 12), none, .op (.move (.tmp 69))⟩])
                (.seq
                 (.region [⟨(some 70), none, .op (.move (.tmp 9))⟩,
                   ⟨(some 71), none, .op (.move (.tmp 11))⟩,
                   ⟨(some 72), none, .call 30 [(.tmp 70), (.tmp 71)]⟩,
                   ⟨(some 13), none, .op (.move (.tmp 72))⟩])
                 (.seq
                  (.region [⟨(some 74), none, .op (.move (.tmp 0))⟩,
                    ⟨(some 75), none, .op (.move (.tmp 8))⟩,
                    ⟨(some 76), none, .call 31 [(.tmp 74), (.tmp 75)]⟩,
                    ⟨(some 73), none, .op (.move (.tmp 76))⟩,
                    ⟨(some 77), none, .op (.ext 0 (.tmp 73))⟩,
                    ⟨(some 78), none, .op (.ext 1 (.tmp 73))⟩,
                    ⟨(some 14), none, .op (.move (.tmp 77))⟩,
                    ⟨(some 15), none, .op (.move (.tmp 78))⟩])
                  (.seq
                   (.region [⟨(some 80), none, .op (.move (.tmp 1))⟩,
                     ⟨(some 81), none, .op (.move (.tmp 8))⟩,
                     ⟨(some 82), none, .call 67 [(.tmp 80), (.tmp 81)]⟩,
                     ⟨(some 79), none, .op (.move (.tmp 82))⟩,
                     ⟨(some 83), none, .op (.ext 0 (.tmp 79))⟩,
                     ⟨(some 84), none, .op (.ext 1 (.tmp 79))⟩,
                     ⟨(some 16), none, .op (.move (.tmp 83))⟩,
                     ⟨(some 17), none, .op (.move (.tmp 84))⟩])
                   (.seq
                    (.region [⟨(some 85), none, .op (.move (.tmp 14))⟩,
                      ⟨(some 86), none, .op (.move (.tmp 16))⟩,
                      ⟨(some 87), none, .call 30 [(.tmp 85), (.tmp 86)]⟩,
                      ⟨(some 18), none, .op (.move (.tmp 87))⟩])
                    (.seq
                     (.region [⟨(some 88), none, .op (.move (.tmp 13))⟩,
                       ⟨(some 89), none, .op (.un .not (.tmp 88))⟩,
                       ⟨(some 90), none, .op (.move (.tmp 89))⟩,
                       ⟨(some 91), some (90, false), .op (.move (.tmp 18))⟩,
                       ⟨(some 92), some (90, false), .op (.un .not (.tmp 91))⟩,
                       ⟨(some 93), none, .op (.pick (.tmp 90) (.const (.bool true)) (.tmp 92))⟩,
                       ⟨(some 94), none, .op (.move (.tmp 93))⟩,
                       ⟨(some 95), some (94, false), .op (.move (.tmp 10))⟩,
                       ⟨(some 96), some (94, false), .op (.move (.tmp 12))⟩,
                       ⟨(some 97), some (94, false), .op (.bin .neq (.tmp 95) (.tmp 96))⟩,
                       ⟨(some 98), none, .op (.pick (.tmp 94) (.const (.bool true)) (.tmp 97))⟩,
                       ⟨(some 99), none, .op (.move (.tmp 98))⟩,
                       ⟨(some 100), some (99, false), .op (.move (.tmp 15))⟩,
                       ⟨(some 101), some (99, false), .op (.move (.tmp 17))⟩,
                       ⟨(some 102), some (99, false), .op (.bin .neq (.tmp 100) (.tmp 101))⟩,
                       ⟨(some 103), none, .op (.pick (.tmp 99) (.const (.bool true)) (.tmp 102))⟩])
                     (.cond (.tmp 103)
                      (.seq
                       (.region [⟨(some 4), none, .op (.move (.const (.bool false)))⟩])
                       (.ret))
                      (.skip))))))))))
             (.region [⟨(some 56), none, .op (.move (.tmp 8))⟩,
               ⟨(some 57), none, .op (.bin .add (.tmp 56) (.const (.int .i64 1)))⟩,
               ⟨(some 8), none, .op (.move (.tmp 57))⟩]))))))
        (.seq
         (.region [⟨(some 4), none, .op (.move (.const (.bool true)))⟩])
         (.ret)))))))
def r35 : List LRes := [.tmp 4]
theorem body35 : Try.f35.body.bind (compileC Try.prog) = some c35 := by kernel_rfl
theorem res35 : compileRes Try.prog Try.f35.results.toList = some r35 := by kernel_rfl
theorem has35 : hasBody Try.prog 35 = true := by kernel_rfl
theorem enter35 {args : LVals} {h : LHeap} {R : LEnd → LHeap → Prop} (hk : 104 - lvsLen args = 102) (hw : initK args 102 fun t => lwp Try.prog h.length c35 (bodyQ r35 R) t h) : LCalls Try.prog 35 args h R := LCalls.enter Try.func35 body35 has35 res35 _ (by rw [Try.ntmps35]; exact hk) hw
/-- palatine/palatinelaw01.DiskArms -/
def c3 : LCode :=
  .seq
   (.region [⟨(some 4), none, .op (.move (.const (.bool false)))⟩])
   (.seq
    (.region [⟨(some 16), none, .call 21 []⟩,
      ⟨(some 5), none, .op (.move (.tmp 16))⟩])
    (.seq
     (.region [⟨(some 18), none, .call 22 [(.const (.int .i64 1))]⟩,
       ⟨(some 17), none, .op (.move (.tmp 18))⟩,
       ⟨(some 19), none, .op (.ext 0 (.tmp 17))⟩,
       ⟨(some 20), none, .op (.ext 1 (.tmp 17))⟩,
       ⟨(some 6), none, .op (.move (.tmp 19))⟩,
       ⟨(some 7), none, .op (.move (.tmp 20))⟩])
     (.seq
      (.seq
       (.region [⟨(some 21), none, .op (.move (.tmp 6))⟩,
         ⟨(some 22), none, .op (.peq false (.tmp 21) (.const .nilp))⟩,
         ⟨(some 23), none, .op (.move (.tmp 22))⟩,
         ⟨(some 24), some (23, false), .op (.move (.tmp 7))⟩,
         ⟨(some 25), some (23, false), .op (.bin .neq (.tmp 24) (.const (.int .i64 0)))⟩,
         ⟨(some 26), none, .op (.pick (.tmp 23) (.const (.bool true)) (.tmp 25))⟩])
       (.cond (.tmp 26)
        (.seq
         (.region [⟨(some 4), none, .op (.move (.const (.bool false)))⟩])
         (.ret))
        (.skip)))
      (.seq
       (.region [⟨(some 27), none, .op (.move (.tmp 6))⟩,
         ⟨(some 28), none, .op (.move (.tmp 0))⟩,
         ⟨(some 29), none, .call 23 [(.tmp 27), (.tmp 28)]⟩,
         ⟨(some 8), none, .op (.move (.tmp 29))⟩])
       (.seq
        (.seq
         (.region [⟨(some 30), none, .op (.move (.tmp 0))⟩,
           ⟨(some 31), none, .op (.bin .lss (.tmp 30) (.const (.int .i64 0)))⟩])
         (.cond (.tmp 31)
          (.seq
           (.region [⟨(some 32), none, .op (.move (.tmp 5))⟩,
             ⟨(some 33), none, .op (.move (.tmp 32))⟩,
             ⟨(some 34), some (33, true), .op (.move (.tmp 8))⟩,
             ⟨(some 35), some (33, true), .op (.bin .eql (.tmp 34) (.const (.int .i64 1)))⟩,
             ⟨(some 36), none, .op (.pick (.tmp 33) (.tmp 35) (.const (.bool false)))⟩,
             ⟨(some 4), none, .op (.move (.tmp 36))⟩])
           (.ret))
          (.skip)))
        (.seq
         (.seq
          (.region [⟨(some 9), none, .op (.move (.const (.int .i64 0)))⟩])
          (.block 0
           (.loop
            (.seq
             (.seq
              (.region [⟨(some 37), none, .op (.move (.tmp 9))⟩,
                ⟨(some 38), none, .op (.move (.tmp 1))⟩,
                ⟨(some 39), none, .op (.lenSl (.tmp 38))⟩,
                ⟨(some 40), none, .op (.bin .lss (.tmp 37) (.tmp 39))⟩,
                ⟨(some 41), none, .op (.move (.tmp 40))⟩,
                ⟨(some 42), some (41, true), .op (.move (.tmp 9))⟩,
                ⟨(some 43), some (41, true), .op (.bin .lss (.tmp 42) (.const (.int .i64 100)))⟩,
                ⟨(some 44), none, .op (.pick (.tmp 41) (.tmp 43) (.const (.bool false)))⟩])
              (.cond (.tmp 44)
               (.skip)
               (.exit 0)))
             (.seq
              (.block 1
               (.seq
                (.region [⟨(some 48), none, .op (.move (.tmp 6))⟩,
                  ⟨(some 49), none, .call 24 [(.tmp 48), (.const (.int .i64 0))]⟩,
                  ⟨(some 47), none, .op (.move (.tmp 49))⟩,
                  ⟨(some 50), none, .op (.ext 0 (.tmp 47))⟩,
                  ⟨(some 51), none, .op (.ext 1 (.tmp 47))⟩,
                  ⟨(some 10), none, .op (.move (.tmp 50))⟩,
                  ⟨(some 11), none, .op (.move (.tmp 51))⟩])
                (.seq
                 (.region [⟨(some 12), none, .op (.move (.const (.int .i64 0)))⟩])
                 (.seq
                  (.seq
                   (.region [⟨(some 52), none, .op (.move (.tmp 9))⟩,
                     ⟨(some 53), none, .op (.move (.tmp 0))⟩,
                     ⟨(some 54), none, .op (.bin .geq (.tmp 52) (.tmp 53))⟩])
                   (.cond (.tmp 54)
                    (.region [⟨(some 12), none, .op (.move (.const (.int .i64 10)))⟩])
                    (.skip)))
                  (.seq
                   (.seq
                    (.region [⟨(some 55), none, .op (.move (.tmp 9))⟩,
                      ⟨(some 56), none, .op (.move (.tmp 0))⟩,
                      ⟨(some 57), none, .op (.bin .gtr (.tmp 55) (.tmp 56))⟩,
                      ⟨(some 58), none, .op (.move (.tmp 57))⟩,
                      ⟨(some 59), some (58, true), .op (.move (.tmp 11))⟩,
                      ⟨(some 60), some (58, true), .op (.bin .neq (.tmp 59) (.const (.int .i64 10)))⟩,
                      ⟨(some 61), none, .op (.pick (.tmp 58) (.tmp 60) (.const (.bool false)))⟩,
                      ⟨(some 62), none, .op (.move (.tmp 61))⟩,
                      ⟨(some 63), some (62, false), .op (.move (.tmp 9))⟩,
                      ⟨(some 64), some (62, false), .op (.move (.tmp 0))⟩,
                      ⟨(some 65), some (62, false), .op (.bin .leq (.tmp 63) (.tmp 64))⟩,
                      ⟨(some 66), some (62, false), .op (.move (.tmp 65))⟩,
                      ⟨(some 67), some (66, true), .op (.move (.tmp 11))⟩,
                      ⟨(some 68), some (66, true), .op (.bin .neq (.tmp 67) (.const (.int .i64 0)))⟩,
                      ⟨(some 69), some (62, false), .op (.pick (.tmp 66) (.tmp 68) (.const (.bool false)))⟩,
                      ⟨(some 70), none, .op (.pick (.tmp 62) (.const (.bool true)) (.tmp 69))⟩])
                    (.cond (.tmp 70)
                     (.seq
                      (.region [⟨(some 4), none, .op (.move (.const (.bool false)))⟩])
                      (.ret))
                     (.skip)))
                   (.seq
                    (.region [⟨(some 13), none, .op (.move (.const (.int .i64 0)))⟩])
                    (.seq
                     (.seq
                      (.region [⟨(some 71), none, .op (.move (.tmp 1))⟩,
                        ⟨(some 72), none, .op (.move (.tmp 9))⟩,
                        ⟨(some 73), none, .op (.idxSl 1 (.tmp 71) (.tmp 72))⟩,
                        ⟨(some 74), none, .op (.load none (.tmp 73))⟩])
                      (.cond (.tmp 74)
                       (.region [⟨(some 75), none, .op (.move (.tmp 6))⟩,
                         ⟨(some 76), none, .call 25 [(.tmp 75)]⟩,
                         ⟨(some 13), none, .op (.move (.tmp 76))⟩])
                       (.region [⟨(some 77), none, .op (.move (.tmp 6))⟩,
                         ⟨(some 78), none, .op (.move (.tmp 9))⟩,
                         ⟨(some 79), none, .op (.toInt .u8 (.tmp 78))⟩,
                         ⟨(some 80), none, .op (.bsl 1 1 5 (.one (.int .u8 0) .nil) [(0, (.tmp 79))])⟩,
                         ⟨(some 81), none, .call 26 [(.tmp 77), (.const (.int .i64 0)), (.tmp 80)]⟩,
                         ⟨(some 13), none, .op (.move (.tmp 81))⟩])))
                     (.seq
                      (.region [⟨(some 82), none, .op (.move (.tmp 13))⟩,
                        ⟨(some 83), none, .op (.move (.tmp 12))⟩,
                        ⟨(some 84), none, .op (.bin .neq (.tmp 82) (.tmp 83))⟩])
                      (.cond (.tmp 84)
                       (.seq
                        (.region [⟨(some 4), none, .op (.move (.const (.bool false)))⟩])
                        (.ret))
                       (.skip))))))))))
              (.region [⟨(some 45), none, .op (.move (.tmp 9))⟩,
                ⟨(some 46), none, .op (.bin .add (.tmp 45) (.const (.int .i64 1)))⟩,
                ⟨(some 9), none, .op (.move (.tmp 46))⟩]))))))
         (.seq
          (.region [⟨(some 85), none, .op (.move (.tmp 6))⟩,
            ⟨(some 86), none, .call 27 [(.tmp 85), (.const (.slice ⟨0, [], 0⟩ 0 0 0 0 (some 0)))]⟩])
          (.seq
           (.region [⟨(some 87), none, .op (.move (.tmp 6))⟩,
             ⟨(some 88), none, .call 28 [(.tmp 87)]⟩,
             ⟨(some 14), none, .op (.move (.tmp 88))⟩])
           (.seq
            (.region [⟨(some 89), none, .op (.move (.tmp 6))⟩,
              ⟨(some 90), none, .op (.bsl 1 1 5 (.one (.int .u8 0) .nil) [(0, (.const (.int .u8 1)))])⟩,
              ⟨(some 91), none, .call 26 [(.tmp 89), (.const (.int .i64 0)), (.tmp 90)]⟩,
              ⟨(some 15), none, .op (.move (.tmp 91))⟩])
            (.seq
             (.region [⟨(some 92), none, .op (.move (.tmp 5))⟩,
               ⟨(some 93), none, .op (.move (.tmp 92))⟩,
               ⟨(some 94), some (93, true), .op (.move (.tmp 8))⟩,
               ⟨(some 95), some (93, true), .op (.bin .eql (.tmp 94) (.const (.int .i64 0)))⟩,
               ⟨(some 96), none, .op (.pick (.tmp 93) (.tmp 95) (.const (.bool false)))⟩,
               ⟨(some 97), none, .op (.move (.tmp 96))⟩,
               ⟨(some 98), some (97, true), .op (.move (.tmp 14))⟩,
               ⟨(some 99), none, .op (.pick (.tmp 97) (.tmp 98) (.const (.bool false)))⟩,
               ⟨(some 100), none, .op (.move (.tmp 99))⟩,
               ⟨(some 101), some (100, true), .op (.move (.tmp 15))⟩,
               ⟨(some 102), some (100, true), .op (.bin .eql (.tmp 101) (.const (.int .i64 0)))⟩,
               ⟨(some 103), none, .op (.pick (.tmp 100) (.tmp 102) (.const (.bool false)))⟩,
               ⟨(some 4), none, .op (.move (.tmp 103))⟩])
             (.ret)))))))))))
def r3 : List LRes := [.tmp 4]
theorem body3 : Try.f3.body.bind (compileC Try.prog) = some c3 := by kernel_rfl
theorem res3 : compileRes Try.prog Try.f3.results.toList = some r3 := by kernel_rfl
theorem has3 : hasBody Try.prog 3 = true := by kernel_rfl
theorem enter3 {args : LVals} {h : LHeap} {R : LEnd → LHeap → Prop} (hk : 104 - lvsLen args = 102) (hw : initK args 102 fun t => lwp Try.prog h.length c3 (bodyQ r3 R) t h) : LCalls Try.prog 3 args h R := LCalls.enter Try.func3 body3 has3 res3 _ (by rw [Try.ntmps3]; exact hk) hw
/-- palatine/palatinelaw01.DiskBack -/
def c4 : LCode :=
  .seq
   (.region [⟨(some 8), none, .op (.move (.const (.bool false)))⟩])
   (.seq
    (.region [⟨(some 21), none, .call 21 []⟩,
      ⟨(some 9), none, .op (.move (.tmp 21))⟩])
    (.seq
     (.region [⟨(some 23), none, .op (.move (.tmp 0))⟩,
       ⟨(some 24), none, .call 29 [(.const (.int .i64 4)), (.tmp 23)]⟩,
       ⟨(some 22), none, .op (.move (.tmp 24))⟩,
       ⟨(some 25), none, .op (.ext 0 (.tmp 22))⟩,
       ⟨(some 26), none, .op (.ext 1 (.tmp 22))⟩,
       ⟨(some 10), none, .op (.move (.tmp 25))⟩,
       ⟨(some 11), none, .op (.move (.tmp 26))⟩])
     (.seq
      (.seq
       (.region [⟨(some 27), none, .op (.move (.tmp 10))⟩,
         ⟨(some 28), none, .op (.peq false (.tmp 27) (.const .nilp))⟩])
       (.cond (.tmp 28)
        (.seq
         (.region [⟨(some 8), none, .op (.move (.const (.bool false)))⟩])
         (.ret))
        (.skip)))
      (.seq
       (.region [⟨(some 30), none, .op (.move (.tmp 10))⟩,
         ⟨(some 31), none, .op (.move (.tmp 3))⟩,
         ⟨(some 32), none, .call 24 [(.tmp 30), (.tmp 31)]⟩,
         ⟨(some 29), none, .op (.move (.tmp 32))⟩,
         ⟨(some 33), none, .op (.ext 0 (.tmp 29))⟩,
         ⟨(some 34), none, .op (.ext 1 (.tmp 29))⟩,
         ⟨(some 12), none, .op (.move (.tmp 33))⟩,
         ⟨(some 13), none, .op (.move (.tmp 34))⟩])
       (.seq
        (.region [⟨(some 35), none, .op (.move (.tmp 10))⟩,
          ⟨(some 36), none, .op (.move (.tmp 1))⟩,
          ⟨(some 37), none, .op (.move (.tmp 2))⟩,
          ⟨(some 38), none, .call 26 [(.tmp 35), (.tmp 36), (.tmp 37)]⟩,
          ⟨(some 14), none, .op (.move (.tmp 38))⟩])
        (.seq
         (.seq
          (.region [⟨(some 39), none, .op (.move (.tmp 14))⟩,
            ⟨(some 40), none, .op (.bin .neq (.tmp 39) (.const (.int .i64 0)))⟩])
          (.cond (.tmp 40)
           (.seq
            (.region [⟨(some 41), none, .op (.move (.tmp 9))⟩,
              ⟨(some 8), none, .op (.move (.tmp 41))⟩])
            (.ret))
           (.skip)))
         (.seq
          (.region [⟨(some 43), none, .op (.move (.tmp 10))⟩,
            ⟨(some 44), none, .op (.move (.tmp 1))⟩,
            ⟨(some 45), none, .call 24 [(.tmp 43), (.tmp 44)]⟩,
            ⟨(some 42), none, .op (.move (.tmp 45))⟩,
            ⟨(some 46), none, .op (.ext 0 (.tmp 42))⟩,
            ⟨(some 47), none, .op (.ext 1 (.tmp 42))⟩,
            ⟨(some 15), none, .op (.move (.tmp 46))⟩,
            ⟨(some 16), none, .op (.move (.tmp 47))⟩])
          (.seq
           (.region [⟨(some 49), none, .op (.move (.tmp 10))⟩,
             ⟨(some 50), none, .op (.move (.tmp 3))⟩,
             ⟨(some 51), none, .call 24 [(.tmp 49), (.tmp 50)]⟩,
             ⟨(some 48), none, .op (.move (.tmp 51))⟩,
             ⟨(some 52), none, .op (.ext 0 (.tmp 48))⟩,
             ⟨(some 53), none, .op (.ext 1 (.tmp 48))⟩,
             ⟨(some 17), none, .op (.move (.tmp 52))⟩,
             ⟨(some 18), none, .op (.move (.tmp 53))⟩])
           (.seq
            (.seq
             (.region [⟨(some 54), none, .op (.move (.tmp 16))⟩,
               ⟨(some 55), none, .op (.bin .neq (.tmp 54) (.const (.int .i64 0)))⟩,
               ⟨(some 56), none, .op (.move (.tmp 55))⟩,
               ⟨(some 57), some (56, false), .op (.move (.tmp 15))⟩,
               ⟨(some 58), some (56, false), .op (.lenSl (.tmp 57))⟩,
               ⟨(some 59), some (56, false), .op (.bin .neq (.tmp 58) (.const (.int .i64 64)))⟩,
               ⟨(some 60), none, .op (.pick (.tmp 56) (.const (.bool true)) (.tmp 59))⟩,
               ⟨(some 61), none, .op (.move (.tmp 60))⟩,
               ⟨(some 62), some (61, false), .op (.move (.tmp 2))⟩,
               ⟨(some 63), some (61, false), .op (.lenSl (.tmp 62))⟩,
               ⟨(some 64), some (61, false), .op (.bin .gtr (.tmp 63) (.const (.int .i64 64)))⟩,
               ⟨(some 65), none, .op (.pick (.tmp 61) (.const (.bool true)) (.tmp 64))⟩])
             (.cond (.tmp 65)
              (.seq
               (.region [⟨(some 8), none, .op (.move (.const (.bool false)))⟩])
               (.ret))
              (.skip)))
            (.seq
             (.seq
              (.region [⟨(some 19), none, .op (.move (.const (.int .i64 0)))⟩])
              (.block 0
               (.loop
                (.seq
                 (.seq
                  (.region [⟨(some 66), none, .op (.move (.tmp 19))⟩,
                    ⟨(some 67), none, .op (.bin .lss (.tmp 66) (.const (.int .i64 64)))⟩])
                  (.cond (.tmp 67)
                   (.skip)
                   (.exit 0)))
                 (.seq
                  (.block 1
                   (.seq
                    (.draws [(0, [], ⟨(some 70), none, .op (.move (.tmp 19))⟩),
                      (1, [0], ⟨(some 71), none, .op (.move (.tmp 2))⟩),
                      (2, [0], ⟨(some 72), none, .op (.lenSl (.tmp 71))⟩),
                      (3, [], ⟨(some 73), none, .op (.bin .lss (.tmp 70) (.tmp 72))⟩),
                      (4, [], ⟨(some 74), none, .op (.move (.tmp 73))⟩),
                      (5, [], ⟨(some 75), some (74, true), .op (.move (.tmp 15))⟩),
                      (6, [5], ⟨(some 76), some (74, true), .op (.move (.tmp 19))⟩),
                      (7, [], ⟨(some 77), some (74, true), .op (.idxSl 1 (.tmp 75) (.tmp 76))⟩),
                      (8, [], ⟨(some 78), some (74, true), .op (.load none (.tmp 77))⟩),
                      (9, [5, 6, 7, 8], ⟨(some 79), some (74, true), .op (.move (.tmp 2))⟩),
                      (10, [5, 6, 7, 8, 9], ⟨(some 80), some (74, true), .op (.move (.tmp 19))⟩),
                      (11, [5, 6, 7, 8], ⟨(some 81), some (74, true), .op (.idxSl 1 (.tmp 79) (.tmp 80))⟩),
                      (12, [5, 6, 7, 8], ⟨(some 82), some (74, true), .op (.load none (.tmp 81))⟩),
                      (13, [], ⟨(some 83), some (74, true), .op (.bin .neq (.tmp 78) (.tmp 82))⟩),
                      (14, [], ⟨(some 84), none, .op (.pick (.tmp 74) (.tmp 83) (.const (.bool false)))⟩),
                      (15, [], ⟨(some 85), none, .op (.move (.tmp 84))⟩),
                      (16, [], ⟨(some 86), some (85, false), .op (.move (.tmp 19))⟩),
                      (17, [16], ⟨(some 87), some (85, false), .op (.move (.tmp 2))⟩),
                      (18, [16], ⟨(some 88), some (85, false), .op (.lenSl (.tmp 87))⟩),
                      (19, [], ⟨(some 89), some (85, false), .op (.bin .geq (.tmp 86) (.tmp 88))⟩),
                      (20, [], ⟨(some 90), some (85, false), .op (.move (.tmp 89))⟩),
                      (21, [], ⟨(some 91), some (90, true), .op (.move (.tmp 15))⟩),
                      (22, [21], ⟨(some 92), some (90, true), .op (.move (.tmp 19))⟩),
                      (23, [], ⟨(some 93), some (90, true), .op (.idxSl 1 (.tmp 91) (.tmp 92))⟩),
                      (24, [], ⟨(some 94), some (90, true), .op (.load none (.tmp 93))⟩),
                      (25, [], ⟨(some 95), some (90, true), .op (.bin .neq (.tmp 94) (.const (.int .u8 0)))⟩),
                      (26, [], ⟨(some 96), some (85, false), .op (.pick (.tmp 90) (.tmp 95) (.const (.bool false)))⟩),
                      (27, [], ⟨(some 97), none, .op (.pick (.tmp 85) (.const (.bool true)) (.tmp 96))⟩)])
                    (.cond (.tmp 97)
                     (.seq
                      (.region [⟨(some 8), none, .op (.move (.const (.bool false)))⟩])
                      (.ret))
                     (.skip))))
                  (.region [⟨(some 68), none, .op (.move (.tmp 19))⟩,
                    ⟨(some 69), none, .op (.bin .add (.tmp 68) (.const (.int .i64 1)))⟩,
                    ⟨(some 19), none, .op (.move (.tmp 69))⟩]))))))
             (.seq
              (.region [⟨(some 98), none, .op (.move (.tmp 12))⟩,
                ⟨(some 99), none, .op (.move (.tmp 17))⟩,
                ⟨(some 100), none, .call 30 [(.tmp 98), (.tmp 99)]⟩,
                ⟨(some 20), none, .op (.move (.tmp 100))⟩])
              (.seq
               (.region [⟨(some 101), none, .op (.move (.tmp 9))⟩,
                 ⟨(some 102), none, .op (.move (.tmp 101))⟩,
                 ⟨(some 103), some (102, true), .op (.move (.tmp 13))⟩,
                 ⟨(some 104), some (102, true), .op (.move (.tmp 18))⟩,
                 ⟨(some 105), some (102, true), .op (.bin .eql (.tmp 103) (.tmp 104))⟩,
                 ⟨(some 106), none, .op (.pick (.tmp 102) (.tmp 105) (.const (.bool false)))⟩,
                 ⟨(some 107), none, .op (.move (.tmp 106))⟩,
                 ⟨(some 108), some (107, true), .op (.move (.tmp 1))⟩,
                 ⟨(some 109), some (107, true), .op (.move (.tmp 3))⟩,
                 ⟨(some 110), some (107, true), .op (.bin .eql (.tmp 108) (.tmp 109))⟩,
                 ⟨(some 111), some (107, true), .op (.move (.tmp 110))⟩,
                 ⟨(some 112), some (111, false), .op (.move (.tmp 20))⟩,
                 ⟨(some 113), some (107, true), .op (.pick (.tmp 111) (.const (.bool true)) (.tmp 112))⟩,
                 ⟨(some 114), none, .op (.pick (.tmp 107) (.tmp 113) (.const (.bool false)))⟩,
                 ⟨(some 8), none, .op (.move (.tmp 114))⟩])
               (.ret)))))))))))))
def r4 : List LRes := [.tmp 8]
theorem body4 : Try.f4.body.bind (compileC Try.prog) = some c4 := by kernel_rfl
theorem res4 : compileRes Try.prog Try.f4.results.toList = some r4 := by kernel_rfl
theorem has4 : hasBody Try.prog 4 = true := by kernel_rfl
theorem enter4 {args : LVals} {h : LHeap} {R : LEnd → LHeap → Prop} (hk : 115 - lvsLen args = 111) (hw : initK args 111 fun t => lwp Try.prog h.length c4 (bodyQ r4 R) t h) : LCalls Try.prog 4 args h R := LCalls.enter Try.func4 body4 has4 res4 _ (by rw [Try.ntmps4]; exact hk) hw
/-- palatine/palatinelaw01.DiskCrash -/
def c5 : LCode :=
  .seq
   (.region [⟨(some 8), none, .op (.move (.const (.bool false)))⟩])
   (.seq
    (.region [⟨(some 28), none, .call 21 []⟩,
      ⟨(some 9), none, .op (.move (.tmp 28))⟩])
    (.seq
     (.region [⟨(some 30), none, .op (.move (.tmp 0))⟩,
       ⟨(some 31), none, .call 29 [(.const (.int .i64 4)), (.tmp 30)]⟩,
       ⟨(some 29), none, .op (.move (.tmp 31))⟩,
       ⟨(some 32), none, .op (.ext 0 (.tmp 29))⟩,
       ⟨(some 33), none, .op (.ext 1 (.tmp 29))⟩,
       ⟨(some 10), none, .op (.move (.tmp 32))⟩,
       ⟨(some 11), none, .op (.move (.tmp 33))⟩])
     (.seq
      (.seq
       (.region [⟨(some 34), none, .op (.move (.tmp 10))⟩,
         ⟨(some 35), none, .op (.peq false (.tmp 34) (.const .nilp))⟩])
       (.cond (.tmp 35)
        (.seq
         (.region [⟨(some 8), none, .op (.move (.const (.bool false)))⟩])
         (.ret))
        (.skip)))
      (.seq
       (.seq
        (.region [⟨(some 36), none, .op (.move (.tmp 1))⟩,
          ⟨(some 37), none, .op (.bin .lss (.tmp 36) (.const (.int .i64 0)))⟩,
          ⟨(some 38), none, .op (.move (.tmp 37))⟩,
          ⟨(some 39), some (38, false), .op (.move (.tmp 1))⟩,
          ⟨(some 40), some (38, false), .op (.bin .gtr (.tmp 39) (.const (.int .i64 3)))⟩,
          ⟨(some 41), none, .op (.pick (.tmp 38) (.const (.bool true)) (.tmp 40))⟩])
        (.cond (.tmp 41)
         (.seq
          (.region [⟨(some 42), none, .op (.move (.tmp 9))⟩,
            ⟨(some 8), none, .op (.move (.tmp 42))⟩])
          (.ret))
         (.skip)))
       (.seq
        (.region [⟨(some 43), none, .op (.move (.tmp 10))⟩,
          ⟨(some 44), none, .call 27 [(.tmp 43), (.const (.slice ⟨0, [], 0⟩ 0 0 0 0 (some 0)))]⟩])
        (.seq
         (.region [⟨(some 46), none, .op (.move (.tmp 10))⟩,
           ⟨(some 47), none, .op (.move (.tmp 1))⟩,
           ⟨(some 48), none, .call 31 [(.tmp 46), (.tmp 47)]⟩,
           ⟨(some 45), none, .op (.move (.tmp 48))⟩,
           ⟨(some 49), none, .op (.ext 0 (.tmp 45))⟩,
           ⟨(some 50), none, .op (.ext 1 (.tmp 45))⟩,
           ⟨(some 12), none, .op (.move (.tmp 49))⟩,
           ⟨(some 13), none, .op (.move (.tmp 50))⟩])
         (.seq
          (.seq
           (.region [⟨(some 51), none, .op (.move (.tmp 13))⟩,
             ⟨(some 52), none, .op (.bin .neq (.tmp 51) (.const (.int .i64 0)))⟩])
           (.cond (.tmp 52)
            (.seq
             (.region [⟨(some 8), none, .op (.move (.const (.bool false)))⟩])
             (.ret))
            (.skip)))
          (.seq
           (.region [⟨(some 53), none, .op (.move (.tmp 12))⟩,
             ⟨(some 54), none, .op (.bsl 1 1 29 (.one (.slice ⟨0, [], 0⟩ 0 0 0 0 (some 0)) .nil) [(0, (.tmp 53))])⟩,
             ⟨(some 14), none, .op (.move (.tmp 54))⟩])
           (.seq
            (.seq
             (.region [⟨(some 15), none, .op (.move (.const (.int .i64 0)))⟩])
             (.block 0
              (.loop
               (.seq
                (.seq
                 (.region [⟨(some 55), none, .op (.move (.tmp 15))⟩,
                   ⟨(some 56), none, .op (.move (.tmp 2))⟩,
                   ⟨(some 57), none, .op (.lenSl (.tmp 56))⟩,
                   ⟨(some 58), none, .op (.bin .lss (.tmp 55) (.tmp 57))⟩,
                   ⟨(some 59), none, .op (.move (.tmp 58))⟩,
                   ⟨(some 60), some (59, true), .op (.move (.tmp 15))⟩,
                   ⟨(some 61), some (59, true), .op (.bin .lss (.tmp 60) (.const (.int .i64 20)))⟩,
                   ⟨(some 62), none, .op (.pick (.tmp 59) (.tmp 61) (.const (.bool false)))⟩])
                 (.cond (.tmp 62)
                  (.skip)
                  (.exit 0)))
                (.seq
                 (.block 1
                  (.seq
                   (.region [⟨(some 65), none, .op (.move (.tmp 10))⟩,
                     ⟨(some 66), none, .op (.move (.tmp 1))⟩,
                     ⟨(some 67), none, .op (.move (.tmp 2))⟩,
                     ⟨(some 68), none, .op (.move (.tmp 15))⟩,
                     ⟨(some 69), none, .op (.idxSl 1 (.tmp 67) (.tmp 68))⟩,
                     ⟨(some 70), none, .op (.load none (.tmp 69))⟩,
                     ⟨(some 71), none, .call 26 [(.tmp 65), (.tmp 66), (.tmp 70)]⟩,
                     ⟨(some 16), none, .op (.move (.tmp 71))⟩])
                   (.seq
                    (.region [⟨(some 72), none, .op (.move (.tmp 16))⟩,
                      ⟨(some 73), none, .op (.bin .eql (.tmp 72) (.const (.int .i64 0)))⟩])
                    (.cond (.tmp 73)
                     (.seq
                      (.region [⟨(some 75), none, .op (.move (.tmp 10))⟩,
                        ⟨(some 76), none, .op (.move (.tmp 1))⟩,
                        ⟨(some 77), none, .call 24 [(.tmp 75), (.tmp 76)]⟩,
                        ⟨(some 74), none, .op (.move (.tmp 77))⟩,
                        ⟨(some 78), none, .op (.ext 0 (.tmp 74))⟩,
                        ⟨(some 79), none, .op (.ext 1 (.tmp 74))⟩,
                        ⟨(some 17), none, .op (.move (.tmp 78))⟩,
                        ⟨(some 18), none, .op (.move (.tmp 79))⟩])
                      (.seq
                       (.seq
                        (.region [⟨(some 80), none, .op (.move (.tmp 18))⟩,
                          ⟨(some 81), none, .op (.bin .neq (.tmp 80) (.const (.int .i64 0)))⟩])
                        (.cond (.tmp 81)
                         (.seq
                          (.region [⟨(some 8), none, .op (.move (.const (.bool false)))⟩])
                          (.ret))
                         (.skip)))
                       (.region [⟨(some 82), none, .op (.move (.tmp 14))⟩,
                         ⟨(some 83), none, .op (.move (.tmp 17))⟩,
                         ⟨(some 84), none, .op (.bsl 1 1 29 (.one (.slice ⟨0, [], 0⟩ 0 0 0 0 (some 0)) .nil) [(0, (.tmp 83))])⟩,
                         ⟨(some 85), none, .op (.app 1 24 29 (.tmp 82) (.tmp 84))⟩,
                         ⟨(some 14), none, .op (.move (.tmp 85))⟩])))
                     (.skip)))))
                 (.region [⟨(some 63), none, .op (.move (.tmp 15))⟩,
                   ⟨(some 64), none, .op (.bin .add (.tmp 63) (.const (.int .i64 1)))⟩,
                   ⟨(some 15), none, .op (.move (.tmp 64))⟩]))))))
            (.seq
             (.region [⟨(some 86), none, .op (.move (.tmp 10))⟩,
               ⟨(some 87), none, .op (.move (.tmp 3))⟩,
               ⟨(some 88), none, .call 27 [(.tmp 86), (.tmp 87)]⟩])
             (.seq
              (.region [⟨(some 90), none, .op (.move (.tmp 10))⟩,
                ⟨(some 91), none, .op (.move (.tmp 1))⟩,
                ⟨(some 92), none, .call 24 [(.tmp 90), (.tmp 91)]⟩,
                ⟨(some 89), none, .op (.move (.tmp 92))⟩,
                ⟨(some 93), none, .op (.ext 0 (.tmp 89))⟩,
                ⟨(some 94), none, .op (.ext 1 (.tmp 89))⟩,
                ⟨(some 19), none, .op (.move (.tmp 93))⟩,
                ⟨(some 20), none, .op (.move (.tmp 94))⟩])
              (.seq
               (.region [⟨(some 96), none, .op (.move (.tmp 10))⟩,
                 ⟨(some 97), none, .op (.move (.tmp 1))⟩,
                 ⟨(some 98), none, .call 31 [(.tmp 96), (.tmp 97)]⟩,
                 ⟨(some 95), none, .op (.move (.tmp 98))⟩,
                 ⟨(some 99), none, .op (.ext 0 (.tmp 95))⟩,
                 ⟨(some 100), none, .op (.ext 1 (.tmp 95))⟩,
                 ⟨(some 21), none, .op (.move (.tmp 99))⟩,
                 ⟨(some 22), none, .op (.move (.tmp 100))⟩])
               (.seq
                (.region [⟨(some 101), none, .op (.move (.tmp 19))⟩,
                  ⟨(some 102), none, .op (.move (.tmp 21))⟩,
                  ⟨(some 103), none, .call 30 [(.tmp 101), (.tmp 102)]⟩,
                  ⟨(some 23), none, .op (.move (.tmp 103))⟩])
                (.seq
                 (.region [⟨(some 24), none, .op (.move (.const (.bool false)))⟩])
                 (.seq
                  (.seq
                   (.region [⟨(some 25), none, .op (.move (.const (.int .i64 0)))⟩])
                   (.block 2
                    (.loop
                     (.seq
                      (.seq
                       (.region [⟨(some 104), none, .op (.move (.tmp 25))⟩,
                         ⟨(some 105), none, .op (.move (.tmp 14))⟩,
                         ⟨(some 106), none, .op (.lenSl (.tmp 105))⟩,
                         ⟨(some 107), none, .op (.bin .lss (.tmp 104) (.tmp 106))⟩])
                       (.cond (.tmp 107)
                        (.skip)
                        (.exit 2)))
                      (.seq
                       (.block 3
                        (.seq
                         (.region [⟨(some 110), none, .op (.move (.tmp 14))⟩,
                           ⟨(some 111), none, .op (.move (.tmp 25))⟩,
                           ⟨(some 112), none, .op (.idxSl 1 (.tmp 110) (.tmp 111))⟩,
                           ⟨(some 113), none, .op (.load none (.tmp 112))⟩,
                           ⟨(some 114), none, .op (.move (.tmp 19))⟩,
                           ⟨(some 115), none, .call 30 [(.tmp 113), (.tmp 114)]⟩,
                           ⟨(some 26), none, .op (.move (.tmp 115))⟩])
                         (.region [⟨(some 116), none, .op (.move (.tmp 24))⟩,
                           ⟨(some 117), none, .op (.move (.tmp 116))⟩,
                           ⟨(some 118), some (117, false), .op (.move (.tmp 26))⟩,
                           ⟨(some 119), none, .op (.pick (.tmp 117) (.const (.bool true)) (.tmp 118))⟩,
                           ⟨(some 24), none, .op (.move (.tmp 119))⟩])))
                       (.region [⟨(some 108), none, .op (.move (.tmp 25))⟩,
                         ⟨(some 109), none, .op (.bin .add (.tmp 108) (.const (.int .i64 1)))⟩,
                         ⟨(some 25), none, .op (.move (.tmp 109))⟩]))))))
                  (.seq
                   (.region [⟨(some 120), none, .op (.move (.tmp 10))⟩,
                     ⟨(some 121), none, .call 32 [(.tmp 120)]⟩,
                     ⟨(some 27), none, .op (.move (.tmp 121))⟩])
                   (.seq
                    (.region [⟨(some 122), none, .op (.move (.tmp 9))⟩,
                      ⟨(some 123), none, .op (.move (.tmp 122))⟩,
                      ⟨(some 124), some (123, true), .op (.move (.tmp 20))⟩,
                      ⟨(some 125), some (123, true), .op (.bin .eql (.tmp 124) (.const (.int .i64 0)))⟩,
                      ⟨(some 126), none, .op (.pick (.tmp 123) (.tmp 125) (.const (.bool false)))⟩,
                      ⟨(some 127), none, .op (.move (.tmp 126))⟩,
                      ⟨(some 128), some (127, true), .op (.move (.tmp 22))⟩,
                      ⟨(some 129), some (127, true), .op (.bin .eql (.tmp 128) (.const (.int .i64 0)))⟩,
                      ⟨(some 130), none, .op (.pick (.tmp 127) (.tmp 129) (.const (.bool false)))⟩,
                      ⟨(some 131), none, .op (.move (.tmp 130))⟩,
                      ⟨(some 132), some (131, true), .op (.move (.tmp 23))⟩,
                      ⟨(some 133), none, .op (.pick (.tmp 131) (.tmp 132) (.const (.bool false)))⟩,
                      ⟨(some 134), none, .op (.move (.tmp 133))⟩,
                      ⟨(some 135), some (134, true), .op (.move (.tmp 24))⟩,
                      ⟨(some 136), none, .op (.pick (.tmp 134) (.tmp 135) (.const (.bool false)))⟩,
                      ⟨(some 137), none, .op (.move (.tmp 136))⟩,
                      ⟨(some 138), some (137, true), .op (.move (.tmp 27))⟩,
                      ⟨(some 139), some (137, true), .op (.bin .eql (.tmp 138) (.const (.int .i64 0)))⟩,
                      ⟨(some 140), none, .op (.pick (.tmp 137) (.tmp 139) (.const (.bool false)))⟩,
                      ⟨(some 8), none, .op (.move (.tmp 140))⟩])
                    (.ret))))))))))))))))))
def r5 : List LRes := [.tmp 8]
theorem body5 : Try.f5.body.bind (compileC Try.prog) = some c5 := by kernel_rfl
theorem res5 : compileRes Try.prog Try.f5.results.toList = some r5 := by kernel_rfl
theorem has5 : hasBody Try.prog 5 = true := by kernel_rfl
theorem enter5 {args : LVals} {h : LHeap} {R : LEnd → LHeap → Prop} (hk : 141 - lvsLen args = 137) (hw : initK args 137 fun t => lwp Try.prog h.length c5 (bodyQ r5 R) t h) : LCalls Try.prog 5 args h R := LCalls.enter Try.func5 body5 has5 res5 _ (by rw [Try.ntmps5]; exact hk) hw
/-- palatine/palatinelaw01.DiskFlush -/
def c6 : LCode :=
  .seq
   (.region [⟨(some 4), none, .op (.move (.const (.bool false)))⟩])
   (.seq
    (.region [⟨(some 18), none, .call 21 []⟩,
      ⟨(some 5), none, .op (.move (.tmp 18))⟩])
    (.seq
     (.region [⟨(some 20), none, .op (.move (.tmp 0))⟩,
       ⟨(some 21), none, .call 29 [(.const (.int .i64 4)), (.tmp 20)]⟩,
       ⟨(some 19), none, .op (.move (.tmp 21))⟩,
       ⟨(some 22), none, .op (.ext 0 (.tmp 19))⟩,
       ⟨(some 23), none, .op (.ext 1 (.tmp 19))⟩,
       ⟨(some 6), none, .op (.move (.tmp 22))⟩,
       ⟨(some 7), none, .op (.move (.tmp 23))⟩])
     (.seq
      (.seq
       (.region [⟨(some 24), none, .op (.move (.tmp 6))⟩,
         ⟨(some 25), none, .op (.peq false (.tmp 24) (.const .nilp))⟩])
       (.cond (.tmp 25)
        (.seq
         (.region [⟨(some 4), none, .op (.move (.const (.bool false)))⟩])
         (.ret))
        (.skip)))
      (.seq
       (.region [⟨(some 26), none, .op (.move (.tmp 6))⟩,
         ⟨(some 27), none, .call 25 [(.tmp 26)]⟩,
         ⟨(some 8), none, .op (.move (.tmp 27))⟩])
       (.seq
        (.seq
         (.region [⟨(some 28), none, .op (.move (.tmp 8))⟩,
           ⟨(some 29), none, .op (.bin .neq (.tmp 28) (.const (.int .i64 0)))⟩])
         (.cond (.tmp 29)
          (.seq
           (.region [⟨(some 30), none, .op (.move (.tmp 5))⟩,
             ⟨(some 31), none, .op (.move (.tmp 30))⟩,
             ⟨(some 32), some (31, true), .op (.move (.tmp 8))⟩,
             ⟨(some 33), some (31, true), .op (.bin .eql (.tmp 32) (.const (.int .i64 10)))⟩,
             ⟨(some 34), none, .op (.pick (.tmp 31) (.tmp 33) (.const (.bool false)))⟩,
             ⟨(some 4), none, .op (.move (.tmp 34))⟩])
           (.ret))
          (.skip)))
        (.seq
         (.region [⟨(some 9), none, .op (.alloc 45 (.rows 4 1 (fun _ => (.one (.slice ⟨0, [], 0⟩ 0 0 0 0 (some 0)) .nil)) .nil))⟩])
         (.seq
          (.seq
           (.region [⟨(some 10), none, .op (.move (.const (.int .i64 0)))⟩])
           (.block 0
            (.loop
             (.seq
              (.seq
               (.region [⟨(some 35), none, .op (.move (.tmp 10))⟩,
                 ⟨(some 36), none, .op (.bin .lss (.tmp 35) (.const (.int .i64 4)))⟩])
               (.cond (.tmp 36)
                (.skip)
                (.exit 0)))
              (.seq
               (.block 1
                (.seq
                 (.region [⟨(some 40), none, .op (.move (.tmp 6))⟩,
                   ⟨(some 41), none, .op (.move (.tmp 10))⟩,
                   ⟨(some 42), none, .call 24 [(.tmp 40), (.tmp 41)]⟩,
                   ⟨(some 39), none, .op (.move (.tmp 42))⟩,
                   ⟨(some 43), none, .op (.ext 0 (.tmp 39))⟩,
                   ⟨(some 44), none, .op (.ext 1 (.tmp 39))⟩,
                   ⟨(some 11), none, .op (.move (.tmp 43))⟩,
                   ⟨(some 12), none, .op (.move (.tmp 44))⟩])
                 (.seq
                  (.seq
                   (.region [⟨(some 45), none, .op (.move (.tmp 12))⟩,
                     ⟨(some 46), none, .op (.bin .neq (.tmp 45) (.const (.int .i64 0)))⟩])
                   (.cond (.tmp 46)
                    (.seq
                     (.region [⟨(some 4), none, .op (.move (.const (.bool false)))⟩])
                     (.ret))
                    (.skip)))
                  (.region [⟨(some 47), none, .op (.move (.tmp 10))⟩,
                    ⟨(some 48), none, .op (.move (.tmp 11))⟩,
                    ⟨(some 49), none, .op (.idxArr 1 4 (.tmp 9) (.tmp 47))⟩,
                    ⟨none, none, .op (.store 1 (.tmp 49) (.tmp 48))⟩]))))
               (.region [⟨(some 37), none, .op (.move (.tmp 10))⟩,
                 ⟨(some 38), none, .op (.bin .add (.tmp 37) (.const (.int .i64 1)))⟩,
                 ⟨(some 10), none, .op (.move (.tmp 38))⟩]))))))
          (.seq
           (.region [⟨(some 50), none, .op (.move (.tmp 6))⟩,
             ⟨(some 51), none, .op (.move (.tmp 1))⟩,
             ⟨(some 52), none, .call 27 [(.tmp 50), (.tmp 51)]⟩,
             ⟨(some 13), none, .op (.move (.tmp 52))⟩])
           (.seq
            (.seq
             (.region [⟨(some 14), none, .op (.move (.const (.int .i64 0)))⟩])
             (.block 2
              (.loop
               (.seq
                (.seq
                 (.region [⟨(some 53), none, .op (.move (.tmp 14))⟩,
                   ⟨(some 54), none, .op (.bin .lss (.tmp 53) (.const (.int .i64 4)))⟩])
                 (.cond (.tmp 54)
                  (.skip)
                  (.exit 2)))
                (.seq
                 (.block 3
                  (.seq
                   (.region [⟨(some 58), none, .op (.move (.tmp 6))⟩,
                     ⟨(some 59), none, .op (.move (.tmp 14))⟩,
                     ⟨(some 60), none, .call 24 [(.tmp 58), (.tmp 59)]⟩,
                     ⟨(some 57), none, .op (.move (.tmp 60))⟩,
                     ⟨(some 61), none, .op (.ext 0 (.tmp 57))⟩,
                     ⟨(some 62), none, .op (.ext 1 (.tmp 57))⟩,
                     ⟨(some 15), none, .op (.move (.tmp 61))⟩,
                     ⟨(some 16), none, .op (.move (.tmp 62))⟩])
                   (.seq
                    (.region [⟨(some 63), none, .op (.move (.tmp 14))⟩,
                      ⟨(some 64), none, .op (.idxArr 1 4 (.tmp 9) (.tmp 63))⟩,
                      ⟨(some 65), none, .op (.load none (.tmp 64))⟩,
                      ⟨(some 66), none, .op (.move (.tmp 15))⟩,
                      ⟨(some 67), none, .call 30 [(.tmp 65), (.tmp 66)]⟩,
                      ⟨(some 17), none, .op (.move (.tmp 67))⟩])
                    (.seq
                     (.region [⟨(some 68), none, .op (.move (.tmp 16))⟩,
                       ⟨(some 69), none, .op (.bin .neq (.tmp 68) (.const (.int .i64 0)))⟩,
                       ⟨(some 70), none, .op (.move (.tmp 69))⟩,
                       ⟨(some 71), some (70, false), .op (.move (.tmp 17))⟩,
                       ⟨(some 72), some (70, false), .op (.un .not (.tmp 71))⟩,
                       ⟨(some 73), none, .op (.pick (.tmp 70) (.const (.bool true)) (.tmp 72))⟩])
                     (.cond (.tmp 73)
                      (.seq
                       (.region [⟨(some 4), none, .op (.move (.const (.bool false)))⟩])
                       (.ret))
                      (.skip))))))
                 (.region [⟨(some 55), none, .op (.move (.tmp 14))⟩,
                   ⟨(some 56), none, .op (.bin .add (.tmp 55) (.const (.int .i64 1)))⟩,
                   ⟨(some 14), none, .op (.move (.tmp 56))⟩]))))))
            (.seq
             (.region [⟨(some 74), none, .op (.move (.tmp 5))⟩,
               ⟨(some 75), none, .op (.move (.tmp 74))⟩,
               ⟨(some 76), some (75, true), .op (.move (.tmp 13))⟩,
               ⟨(some 77), some (75, true), .op (.bin .eql (.tmp 76) (.const (.int .i64 0)))⟩,
               ⟨(some 78), none, .op (.pick (.tmp 75) (.tmp 77) (.const (.bool false)))⟩,
               ⟨(some 4), none, .op (.move (.tmp 78))⟩])
             (.ret)))))))))))
def r6 : List LRes := [.tmp 4]
theorem body6 : Try.f6.body.bind (compileC Try.prog) = some c6 := by kernel_rfl
theorem res6 : compileRes Try.prog Try.f6.results.toList = some r6 := by kernel_rfl
theorem has6 : hasBody Try.prog 6 = true := by kernel_rfl
theorem enter6 {args : LVals} {h : LHeap} {R : LEnd → LHeap → Prop} (hk : 79 - lvsLen args = 77) (hw : initK args 77 fun t => lwp Try.prog h.length c6 (bodyQ r6 R) t h) : LCalls Try.prog 6 args h R := LCalls.enter Try.func6 body6 has6 res6 _ (by rw [Try.ntmps6]; exact hk) hw
/-- palatine/palatinelaw01.DiskAgain -/
def c7 : LCode :=
  .seq
   (.region [⟨(some 6), none, .op (.move (.const (.bool false)))⟩])
   (.seq
    (.region [⟨(some 18), none, .call 21 []⟩,
      ⟨(some 7), none, .op (.move (.tmp 18))⟩])
    (.seq
     (.region [⟨(some 20), none, .op (.move (.tmp 0))⟩,
       ⟨(some 21), none, .call 29 [(.const (.int .i64 4)), (.tmp 20)]⟩,
       ⟨(some 19), none, .op (.move (.tmp 21))⟩,
       ⟨(some 22), none, .op (.ext 0 (.tmp 19))⟩,
       ⟨(some 23), none, .op (.ext 1 (.tmp 19))⟩,
       ⟨(some 8), none, .op (.move (.tmp 22))⟩,
       ⟨(some 9), none, .op (.move (.tmp 23))⟩])
     (.seq
      (.seq
       (.region [⟨(some 24), none, .op (.move (.tmp 8))⟩,
         ⟨(some 25), none, .op (.peq false (.tmp 24) (.const .nilp))⟩])
       (.cond (.tmp 25)
        (.seq
         (.region [⟨(some 6), none, .op (.move (.const (.bool false)))⟩])
         (.ret))
        (.skip)))
      (.seq
       (.region [⟨(some 26), none, .op (.move (.tmp 8))⟩,
         ⟨(some 27), none, .op (.move (.tmp 1))⟩,
         ⟨(some 28), none, .call 27 [(.tmp 26), (.tmp 27)]⟩])
       (.seq
        (.region [⟨(some 10), none, .op (.alloc 45 (.rows 4 1 (fun _ => (.one (.slice ⟨0, [], 0⟩ 0 0 0 0 (some 0)) .nil)) .nil))⟩])
        (.seq
         (.seq
          (.region [⟨(some 11), none, .op (.move (.const (.int .i64 0)))⟩])
          (.block 0
           (.loop
            (.seq
             (.seq
              (.region [⟨(some 29), none, .op (.move (.tmp 11))⟩,
                ⟨(some 30), none, .op (.bin .lss (.tmp 29) (.const (.int .i64 4)))⟩])
              (.cond (.tmp 30)
               (.skip)
               (.exit 0)))
             (.seq
              (.block 1
               (.region [⟨(some 34), none, .op (.move (.tmp 11))⟩,
                 ⟨(some 35), none, .op (.move (.tmp 8))⟩,
                 ⟨(some 36), none, .op (.move (.tmp 11))⟩,
                 ⟨(some 37), none, .call 24 [(.tmp 35), (.tmp 36)]⟩,
                 ⟨(some 33), none, .op (.move (.tmp 37))⟩,
                 ⟨(some 38), none, .op (.ext 0 (.tmp 33))⟩,
                 ⟨(some 39), none, .op (.ext 1 (.tmp 33))⟩,
                 ⟨(some 40), none, .op (.idxArr 1 4 (.tmp 10) (.tmp 34))⟩,
                 ⟨none, none, .op (.store 1 (.tmp 40) (.tmp 38))⟩]))
              (.region [⟨(some 31), none, .op (.move (.tmp 11))⟩,
                ⟨(some 32), none, .op (.bin .add (.tmp 31) (.const (.int .i64 1)))⟩,
                ⟨(some 11), none, .op (.move (.tmp 32))⟩]))))))
         (.seq
          (.region [⟨(some 41), none, .op (.move (.tmp 8))⟩,
            ⟨(some 42), none, .op (.move (.tmp 2))⟩,
            ⟨(some 43), none, .call 27 [(.tmp 41), (.tmp 42)]⟩,
            ⟨(some 12), none, .op (.move (.tmp 43))⟩])
          (.seq
           (.seq
            (.region [⟨(some 13), none, .op (.move (.const (.int .i64 0)))⟩])
            (.block 2
             (.loop
              (.seq
               (.seq
                (.region [⟨(some 44), none, .op (.move (.tmp 13))⟩,
                  ⟨(some 45), none, .op (.bin .lss (.tmp 44) (.const (.int .i64 4)))⟩])
                (.cond (.tmp 45)
                 (.skip)
                 (.exit 2)))
               (.seq
                (.block 3
                 (.seq
                  (.region [⟨(some 49), none, .op (.move (.tmp 8))⟩,
                    ⟨(some 50), none, .op (.move (.tmp 13))⟩,
                    ⟨(some 51), none, .call 24 [(.tmp 49), (.tmp 50)]⟩,
                    ⟨(some 48), none, .op (.move (.tmp 51))⟩,
                    ⟨(some 52), none, .op (.ext 0 (.tmp 48))⟩,
                    ⟨(some 53), none, .op (.ext 1 (.tmp 48))⟩,
                    ⟨(some 14), none, .op (.move (.tmp 52))⟩,
                    ⟨(some 15), none, .op (.move (.tmp 53))⟩])
                  (.seq
                   (.region [⟨(some 54), none, .op (.move (.tmp 14))⟩,
                     ⟨(some 55), none, .op (.move (.tmp 13))⟩,
                     ⟨(some 56), none, .op (.idxArr 1 4 (.tmp 10) (.tmp 55))⟩,
                     ⟨(some 57), none, .op (.load none (.tmp 56))⟩,
                     ⟨(some 58), none, .call 30 [(.tmp 54), (.tmp 57)]⟩,
                     ⟨(some 16), none, .op (.move (.tmp 58))⟩])
                   (.seq
                    (.region [⟨(some 59), none, .op (.move (.tmp 15))⟩,
                      ⟨(some 60), none, .op (.bin .neq (.tmp 59) (.const (.int .i64 0)))⟩,
                      ⟨(some 61), none, .op (.move (.tmp 60))⟩,
                      ⟨(some 62), some (61, false), .op (.move (.tmp 16))⟩,
                      ⟨(some 63), some (61, false), .op (.un .not (.tmp 62))⟩,
                      ⟨(some 64), none, .op (.pick (.tmp 61) (.const (.bool true)) (.tmp 63))⟩])
                    (.cond (.tmp 64)
                     (.seq
                      (.region [⟨(some 6), none, .op (.move (.const (.bool false)))⟩])
                      (.ret))
                     (.skip))))))
                (.region [⟨(some 46), none, .op (.move (.tmp 13))⟩,
                  ⟨(some 47), none, .op (.bin .add (.tmp 46) (.const (.int .i64 1)))⟩,
                  ⟨(some 13), none, .op (.move (.tmp 47))⟩]))))))
           (.seq
            (.region [⟨(some 65), none, .op (.move (.tmp 8))⟩,
              ⟨(some 66), none, .call 28 [(.tmp 65)]⟩,
              ⟨(some 17), none, .op (.move (.tmp 66))⟩])
            (.seq
             (.region [⟨(some 67), none, .op (.move (.tmp 7))⟩,
               ⟨(some 68), none, .op (.move (.tmp 67))⟩,
               ⟨(some 69), some (68, true), .op (.move (.tmp 12))⟩,
               ⟨(some 70), some (68, true), .op (.bin .eql (.tmp 69) (.const (.int .i64 0)))⟩,
               ⟨(some 71), none, .op (.pick (.tmp 68) (.tmp 70) (.const (.bool false)))⟩,
               ⟨(some 72), none, .op (.move (.tmp 71))⟩,
               ⟨(some 73), some (72, true), .op (.move (.tmp 17))⟩,
               ⟨(some 74), none, .op (.pick (.tmp 72) (.tmp 73) (.const (.bool false)))⟩,
               ⟨(some 6), none, .op (.move (.tmp 74))⟩])
             (.ret)))))))))))
def r7 : List LRes := [.tmp 6]
theorem body7 : Try.f7.body.bind (compileC Try.prog) = some c7 := by kernel_rfl
theorem res7 : compileRes Try.prog Try.f7.results.toList = some r7 := by kernel_rfl
theorem has7 : hasBody Try.prog 7 = true := by kernel_rfl
theorem enter7 {args : LVals} {h : LHeap} {R : LEnd → LHeap → Prop} (hk : 75 - lvsLen args = 72) (hw : initK args 72 fun t => lwp Try.prog h.length c7 (bodyQ r7 R) t h) : LCalls Try.prog 7 args h R := LCalls.enter Try.func7 body7 has7 res7 _ (by rw [Try.ntmps7]; exact hk) hw
/-- palatine/palatinelaw01.DiskPlays -/
def c8 : LCode :=
  .seq
   (.region [⟨(some 4), none, .op (.move (.const (.bool false)))⟩])
   (.seq
    (.region [⟨(some 13), none, .call 21 []⟩,
      ⟨(some 5), none, .op (.move (.tmp 13))⟩])
    (.seq
     (.region [⟨(some 15), none, .op (.move (.tmp 0))⟩,
       ⟨(some 16), none, .call 22 [(.tmp 15)]⟩,
       ⟨(some 14), none, .op (.move (.tmp 16))⟩,
       ⟨(some 17), none, .op (.ext 0 (.tmp 14))⟩,
       ⟨(some 18), none, .op (.ext 1 (.tmp 14))⟩,
       ⟨(some 6), none, .op (.move (.tmp 17))⟩,
       ⟨(some 7), none, .op (.move (.tmp 18))⟩])
     (.seq
      (.region [⟨(some 20), none, .op (.move (.tmp 0))⟩,
        ⟨(some 21), none, .call 33 [(.tmp 20)]⟩,
        ⟨(some 19), none, .op (.move (.tmp 21))⟩,
        ⟨(some 22), none, .op (.ext 0 (.tmp 19))⟩,
        ⟨(some 23), none, .op (.ext 1 (.tmp 19))⟩,
        ⟨(some 8), none, .op (.move (.tmp 22))⟩,
        ⟨(some 9), none, .op (.move (.tmp 23))⟩])
      (.seq
       (.seq
        (.region [⟨(some 24), none, .op (.move (.tmp 7))⟩,
          ⟨(some 25), none, .op (.move (.tmp 9))⟩,
          ⟨(some 26), none, .op (.bin .neq (.tmp 24) (.tmp 25))⟩,
          ⟨(some 27), none, .op (.move (.tmp 26))⟩,
          ⟨(some 28), some (27, false), .op (.move (.tmp 6))⟩,
          ⟨(some 29), some (27, false), .op (.peq false (.tmp 28) (.const .nilp))⟩,
          ⟨(some 30), some (27, false), .op (.move (.tmp 8))⟩,
          ⟨(some 31), some (27, false), .op (.peq false (.tmp 30) (.const .nilp))⟩,
          ⟨(some 32), some (27, false), .op (.beq true (.tmp 29) (.tmp 31))⟩,
          ⟨(some 33), none, .op (.pick (.tmp 27) (.const (.bool true)) (.tmp 32))⟩])
        (.cond (.tmp 33)
         (.seq
          (.region [⟨(some 4), none, .op (.move (.const (.bool false)))⟩])
          (.ret))
         (.skip)))
       (.seq
        (.seq
         (.region [⟨(some 34), none, .op (.move (.tmp 6))⟩,
           ⟨(some 35), none, .op (.peq false (.tmp 34) (.const .nilp))⟩,
           ⟨(some 36), none, .op (.move (.tmp 35))⟩,
           ⟨(some 37), some (36, false), .op (.move (.tmp 8))⟩,
           ⟨(some 38), some (36, false), .op (.peq false (.tmp 37) (.const .nilp))⟩,
           ⟨(some 39), none, .op (.pick (.tmp 36) (.const (.bool true)) (.tmp 38))⟩])
         (.cond (.tmp 39)
          (.seq
           (.region [⟨(some 40), none, .op (.move (.tmp 5))⟩,
             ⟨(some 4), none, .op (.move (.tmp 40))⟩])
           (.ret))
          (.skip)))
        (.seq
         (.seq
          (.region [⟨(some 10), none, .op (.move (.const (.int .i64 0)))⟩])
          (.block 0
           (.loop
            (.seq
             (.seq
              (.region [⟨(some 41), none, .op (.move (.tmp 10))⟩,
                ⟨(some 42), none, .op (.move (.tmp 1))⟩,
                ⟨(some 43), none, .op (.lenSl (.tmp 42))⟩,
                ⟨(some 44), none, .op (.bin .lss (.tmp 41) (.tmp 43))⟩,
                ⟨(some 45), none, .op (.move (.tmp 44))⟩,
                ⟨(some 46), some (45, true), .op (.move (.tmp 10))⟩,
                ⟨(some 47), some (45, true), .op (.bin .lss (.tmp 46) (.const (.int .i64 200)))⟩,
                ⟨(some 48), none, .op (.pick (.tmp 45) (.tmp 47) (.const (.bool false)))⟩])
              (.cond (.tmp 48)
               (.skip)
               (.exit 0)))
             (.seq
              (.block 1
               (.seq
                (.region [⟨(some 51), none, .op (.move (.tmp 6))⟩,
                  ⟨(some 52), none, .op (.move (.tmp 8))⟩,
                  ⟨(some 53), none, .op (.move (.tmp 1))⟩,
                  ⟨(some 54), none, .op (.move (.tmp 10))⟩,
                  ⟨(some 55), none, .op (.idxSl 4 (.tmp 53) (.tmp 54))⟩,
                  ⟨(some 56), none, .op (.load (some 4) (.tmp 55))⟩,
                  ⟨(some 57), none, .call 34 [(.tmp 51), (.tmp 52), (.tmp 56)]⟩,
                  ⟨(some 11), none, .op (.move (.tmp 57))⟩])
                (.seq
                 (.region [⟨(some 58), none, .op (.move (.tmp 6))⟩,
                   ⟨(some 59), none, .op (.move (.tmp 8))⟩,
                   ⟨(some 60), none, .call 35 [(.tmp 58), (.tmp 59)]⟩,
                   ⟨(some 12), none, .op (.move (.tmp 60))⟩])
                 (.seq
                  (.region [⟨(some 61), none, .op (.move (.tmp 11))⟩,
                    ⟨(some 62), none, .op (.un .not (.tmp 61))⟩,
                    ⟨(some 63), none, .op (.move (.tmp 62))⟩,
                    ⟨(some 64), some (63, false), .op (.move (.tmp 12))⟩,
                    ⟨(some 65), some (63, false), .op (.un .not (.tmp 64))⟩,
                    ⟨(some 66), none, .op (.pick (.tmp 63) (.const (.bool true)) (.tmp 65))⟩])
                  (.cond (.tmp 66)
                   (.seq
                    (.region [⟨(some 4), none, .op (.move (.const (.bool false)))⟩])
                    (.ret))
                   (.skip))))))
              (.region [⟨(some 49), none, .op (.move (.tmp 10))⟩,
                ⟨(some 50), none, .op (.bin .add (.tmp 49) (.const (.int .i64 1)))⟩,
                ⟨(some 10), none, .op (.move (.tmp 50))⟩]))))))
         (.seq
          (.region [⟨(some 67), none, .op (.move (.tmp 5))⟩,
            ⟨(some 4), none, .op (.move (.tmp 67))⟩])
          (.ret))))))))
def r8 : List LRes := [.tmp 4]
theorem body8 : Try.f8.body.bind (compileC Try.prog) = some c8 := by kernel_rfl
theorem res8 : compileRes Try.prog Try.f8.results.toList = some r8 := by kernel_rfl
theorem has8 : hasBody Try.prog 8 = true := by kernel_rfl
theorem enter8 {args : LVals} {h : LHeap} {R : LEnd → LHeap → Prop} (hk : 68 - lvsLen args = 66) (hw : initK args 66 fun t => lwp Try.prog h.length c8 (bodyQ r8 R) t h) : LCalls Try.prog 8 args h R := LCalls.enter Try.func8 body8 has8 res8 _ (by rw [Try.ntmps8]; exact hk) hw
end Go.Proofs.Ytilmfhpoiejmfaa.Dk
