/- Functions' codes on the heap of the mind. Written by a program of this session. -/
import Derived.Test.YtaikhgmhocllfaaDoorProg
import Derived.Test.YtaikhgmhocllfaaDoorLh17
namespace Go.Proofs.YtaikhgmhocllfaaDoor.Sk
open Go.Proofs.YtaikhgmhocllfaaDoor.Lh
set_option maxRecDepth 100000
set_option linter.unusedSectionVars false
variable [Fz]
/-- palatine/palatinelaw07.ShaSum -/
def c3 : LCode :=
  .seq
   (.region [⟨(some 2), none, .op (.move (.const (.bool false)))⟩])
   (.seq
    (.region [⟨(some 5), none, .call 12 []⟩,
      ⟨(some 3), none, .op (.move (.tmp 5))⟩])
    (.seq
     (.region [⟨(some 6), none, .op (.move (.tmp 0))⟩,
       ⟨(some 7), none, .call 13 [(.tmp 6)]⟩,
       ⟨(some 4), none, .op (.alloc 24 (.rows 32 1 (fun _ => (.one (.int .u8 0) .nil)) .nil))⟩,
       ⟨none, none, .op (.store 32 (.tmp 4) (.tmp 7))⟩])
     (.seq
      (.draws [(0, [], ⟨(some 8), none, .op (.move (.tmp 3))⟩),
        (1, [], ⟨(some 9), none, .op (.move (.tmp 8))⟩),
        (2, [], ⟨(some 10), some (9, true), .op (.load (some 32) (.tmp 4))⟩),
        (3, [2], ⟨(some 11), some (9, true), .op (.move (.tmp 0))⟩),
        (4, [2], ⟨(some 12), some (9, true), .call 14 [(.tmp 11)]⟩),
        (5, [], ⟨(some 13), some (9, true), .op (.ar false 32 .u8 (.tmp 10) (.tmp 12))⟩),
        (6, [], ⟨(some 14), none, .op (.pick (.tmp 9) (.tmp 13) (.const (.bool false)))⟩),
        (7, [], ⟨(some 2), none, .op (.move (.tmp 14))⟩)])
      (.ret))))
def r3 : List LRes := [.tmp 2]
theorem body3 : Tryd.f3.body.bind (compileC Tryd.prog) = some c3 := by kernel_rfl
theorem res3 : compileRes Tryd.prog Tryd.f3.results.toList = some r3 := by kernel_rfl
theorem has3 : hasBody Tryd.prog 3 = true := by kernel_rfl
theorem enter3 {args : LVals} {h : LHeap} {R : LEnd → LHeap → Prop} (hk : 15 - lvsLen args = 14) (hw : initK args 14 fun t => lwp Tryd.prog h.length c3 (bodyQ r3 R) t h) : LCalls Tryd.prog 3 args h R := LCalls.enter Tryd.func3 body3 has3 res3 _ (by rw [Tryd.ntmps3]; exact hk) hw
/-- palatine/palatinelaw07.ShaMac -/
def c4 : LCode :=
  .seq
   (.region [⟨(some 4), none, .op (.move (.const (.bool false)))⟩])
   (.seq
    (.region [⟨(some 7), none, .call 12 []⟩,
      ⟨(some 5), none, .op (.move (.tmp 7))⟩])
    (.seq
     (.region [⟨(some 8), none, .op (.move (.tmp 0))⟩,
       ⟨(some 9), none, .op (.move (.tmp 1))⟩,
       ⟨(some 10), none, .call 15 [(.tmp 8), (.tmp 9)]⟩,
       ⟨(some 6), none, .op (.alloc 24 (.rows 32 1 (fun _ => (.one (.int .u8 0) .nil)) .nil))⟩,
       ⟨none, none, .op (.store 32 (.tmp 6) (.tmp 10))⟩])
     (.seq
      (.draws [(0, [], ⟨(some 11), none, .op (.move (.tmp 5))⟩),
        (1, [], ⟨(some 12), none, .op (.move (.tmp 11))⟩),
        (2, [], ⟨(some 13), some (12, true), .op (.load (some 32) (.tmp 6))⟩),
        (3, [2], ⟨(some 14), some (12, true), .op (.move (.tmp 0))⟩),
        (4, [2, 3], ⟨(some 15), some (12, true), .op (.move (.tmp 1))⟩),
        (5, [2], ⟨(some 16), some (12, true), .call 16 [(.tmp 14), (.tmp 15)]⟩),
        (6, [], ⟨(some 17), some (12, true), .op (.ar false 32 .u8 (.tmp 13) (.tmp 16))⟩),
        (7, [], ⟨(some 18), none, .op (.pick (.tmp 12) (.tmp 17) (.const (.bool false)))⟩),
        (8, [], ⟨(some 4), none, .op (.move (.tmp 18))⟩)])
      (.ret))))
def r4 : List LRes := [.tmp 4]
theorem body4 : Tryd.f4.body.bind (compileC Tryd.prog) = some c4 := by kernel_rfl
theorem res4 : compileRes Tryd.prog Tryd.f4.results.toList = some r4 := by kernel_rfl
theorem has4 : hasBody Tryd.prog 4 = true := by kernel_rfl
theorem enter4 {args : LVals} {h : LHeap} {R : LEnd → LHeap → Prop} (hk : 19 - lvsLen args = 17) (hw : initK args 17 fun t => lwp Tryd.prog h.length c4 (bodyQ r4 R) t h) : LCalls Tryd.prog 4 args h R := LCalls.enter Tryd.func4 body4 has4 res4 _ (by rw [Tryd.ntmps4]; exact hk) hw
/-- palatine/palatinelaw07.ShaParts -/
def c5 : LCode :=
  .seq
   (.region [⟨(some 2), none, .op (.move (.const (.bool false)))⟩])
   (.seq
    (.region [⟨(some 11), none, .call 12 []⟩,
      ⟨(some 3), none, .op (.move (.tmp 11))⟩])
    (.seq
     (.region [⟨(some 12), none, .call 17 []⟩,
       ⟨(some 4), none, .op (.move (.tmp 12))⟩])
     (.seq
      (.seq
       (.region [⟨(some 13), none, .op (.move (.tmp 4))⟩,
         ⟨(some 14), none, .op (.peq false (.tmp 13) (.const .nilp))⟩])
       (.cond (.tmp 14)
        (.seq
         (.region [⟨(some 2), none, .op (.move (.const (.bool false)))⟩])
         (.ret))
        (.skip)))
      (.seq
       (.region [⟨(some 5), none, .op (.move (.const (.slice ⟨0, [], 0⟩ 0 0 0 0 (some 0))))⟩])
       (.seq
        (.seq
         (.region [⟨(some 6), none, .op (.move (.const (.int .i64 0)))⟩])
         (.block 0
          (.loop
           (.seq
            (.seq
             (.region [⟨(some 15), none, .op (.move (.tmp 6))⟩,
               ⟨(some 16), none, .op (.move (.tmp 0))⟩,
               ⟨(some 17), none, .op (.lenSl (.tmp 16))⟩,
               ⟨(some 18), none, .op (.bin .lss (.tmp 15) (.tmp 17))⟩,
               ⟨(some 19), none, .op (.move (.tmp 18))⟩,
               ⟨(some 20), some (19, true), .op (.move (.tmp 6))⟩,
               ⟨(some 21), some (19, true), .op (.bin .lss (.tmp 20) (.const (.int .i64 40)))⟩,
               ⟨(some 22), none, .op (.pick (.tmp 19) (.tmp 21) (.const (.bool false)))⟩])
             (.cond (.tmp 22)
              (.skip)
              (.exit 0)))
            (.seq
             (.block 1
              (.seq
               (.region [⟨(some 25), none, .op (.move (.tmp 4))⟩,
                 ⟨(some 26), none, .op (.move (.tmp 0))⟩,
                 ⟨(some 27), none, .op (.move (.tmp 6))⟩,
                 ⟨(some 28), none, .op (.idxSl 1 (.tmp 26) (.tmp 27))⟩,
                 ⟨(some 29), none, .op (.load none (.tmp 28))⟩,
                 ⟨(some 30), none, .call 18 [(.tmp 25), (.tmp 29)]⟩])
               (.seq
                (.region [⟨(some 31), none, .op (.move (.tmp 5))⟩,
                  ⟨(some 32), none, .op (.move (.tmp 0))⟩,
                  ⟨(some 33), none, .op (.move (.tmp 6))⟩,
                  ⟨(some 34), none, .op (.idxSl 1 (.tmp 32) (.tmp 33))⟩,
                  ⟨(some 35), none, .op (.load none (.tmp 34))⟩,
                  ⟨(some 36), none, .op (.app 1 1 5 (.tmp 31) (.tmp 35))⟩,
                  ⟨(some 5), none, .op (.move (.tmp 36))⟩])
                (.seq
                 (.region [⟨(some 37), none, .op (.move (.tmp 4))⟩,
                   ⟨(some 38), none, .call 19 [(.tmp 37)]⟩,
                   ⟨(some 7), none, .op (.alloc 24 (.rows 32 1 (fun _ => (.one (.int .u8 0) .nil)) .nil))⟩,
                   ⟨none, none, .op (.store 32 (.tmp 7) (.tmp 38))⟩])
                 (.seq
                  (.region [⟨(some 39), none, .op (.move (.tmp 5))⟩,
                    ⟨(some 40), none, .call 13 [(.tmp 39)]⟩,
                    ⟨(some 8), none, .op (.alloc 24 (.rows 32 1 (fun _ => (.one (.int .u8 0) .nil)) .nil))⟩,
                    ⟨none, none, .op (.store 32 (.tmp 8) (.tmp 40))⟩])
                  (.seq
                   (.region [⟨(some 41), none, .op (.load (some 32) (.tmp 7))⟩,
                     ⟨(some 42), none, .op (.load (some 32) (.tmp 8))⟩,
                     ⟨(some 43), none, .op (.ar true 32 .u8 (.tmp 41) (.tmp 42))⟩])
                   (.cond (.tmp 43)
                    (.seq
                     (.region [⟨(some 2), none, .op (.move (.const (.bool false)))⟩])
                     (.ret))
                    (.skip))))))))
             (.region [⟨(some 23), none, .op (.move (.tmp 6))⟩,
               ⟨(some 24), none, .op (.bin .add (.tmp 23) (.const (.int .i64 1)))⟩,
               ⟨(some 6), none, .op (.move (.tmp 24))⟩]))))))
        (.seq
         (.region [⟨(some 44), none, .op (.move (.tmp 4))⟩,
           ⟨(some 45), none, .call 19 [(.tmp 44)]⟩,
           ⟨(some 9), none, .op (.alloc 24 (.rows 32 1 (fun _ => (.one (.int .u8 0) .nil)) .nil))⟩,
           ⟨none, none, .op (.store 32 (.tmp 9) (.tmp 45))⟩])
         (.seq
          (.region [⟨(some 46), none, .op (.move (.tmp 5))⟩,
            ⟨(some 47), none, .call 13 [(.tmp 46)]⟩,
            ⟨(some 10), none, .op (.alloc 24 (.rows 32 1 (fun _ => (.one (.int .u8 0) .nil)) .nil))⟩,
            ⟨none, none, .op (.store 32 (.tmp 10) (.tmp 47))⟩])
          (.seq
           (.region [⟨(some 48), none, .op (.move (.tmp 3))⟩,
             ⟨(some 49), none, .op (.move (.tmp 48))⟩,
             ⟨(some 50), some (49, true), .op (.load (some 32) (.tmp 9))⟩,
             ⟨(some 51), some (49, true), .op (.load (some 32) (.tmp 10))⟩,
             ⟨(some 52), some (49, true), .op (.ar false 32 .u8 (.tmp 50) (.tmp 51))⟩,
             ⟨(some 53), none, .op (.pick (.tmp 49) (.tmp 52) (.const (.bool false)))⟩,
             ⟨(some 2), none, .op (.move (.tmp 53))⟩])
           (.ret)))))))))
def r5 : List LRes := [.tmp 2]
theorem body5 : Tryd.f5.body.bind (compileC Tryd.prog) = some c5 := by kernel_rfl
theorem res5 : compileRes Tryd.prog Tryd.f5.results.toList = some r5 := by kernel_rfl
theorem has5 : hasBody Tryd.prog 5 = true := by kernel_rfl
theorem enter5 {args : LVals} {h : LHeap} {R : LEnd → LHeap → Prop} (hk : 54 - lvsLen args = 53) (hw : initK args 53 fun t => lwp Tryd.prog h.length c5 (bodyQ r5 R) t h) : LCalls Tryd.prog 5 args h R := LCalls.enter Tryd.func5 body5 has5 res5 _ (by rw [Tryd.ntmps5]; exact hk) hw
/-- palatine/palatinelaw07.ShaKeys -/
def c6 : LCode :=
  .seq
   (.region [⟨(some 4), none, .op (.move (.const (.bool false)))⟩])
   (.seq
    (.region [⟨(some 11), none, .call 12 []⟩,
      ⟨(some 5), none, .op (.move (.tmp 11))⟩])
    (.seq
     (.region [⟨(some 12), none, .op (.move (.tmp 0))⟩,
       ⟨(some 13), none, .op (.move (.tmp 1))⟩,
       ⟨(some 14), none, .call 15 [(.tmp 12), (.tmp 13)]⟩,
       ⟨(some 6), none, .op (.alloc 24 (.rows 32 1 (fun _ => (.one (.int .u8 0) .nil)) .nil))⟩,
       ⟨none, none, .op (.store 32 (.tmp 6) (.tmp 14))⟩])
     (.seq
      (.seq
       (.region [⟨(some 15), none, .op (.move (.tmp 0))⟩,
         ⟨(some 16), none, .op (.lenSl (.tmp 15))⟩,
         ⟨(some 17), none, .op (.bin .gtr (.tmp 16) (.const (.int .i64 64)))⟩])
       (.cond (.tmp 17)
        (.seq
         (.region [⟨(some 18), none, .op (.move (.tmp 0))⟩,
           ⟨(some 19), none, .call 13 [(.tmp 18)]⟩,
           ⟨(some 7), none, .op (.alloc 24 (.rows 32 1 (fun _ => (.one (.int .u8 0) .nil)) .nil))⟩,
           ⟨none, none, .op (.store 32 (.tmp 7) (.tmp 19))⟩])
         (.seq
          (.region [⟨(some 20), none, .op (.slArr 1 32 (.tmp 7) none none)⟩,
            ⟨(some 21), none, .op (.move (.tmp 1))⟩,
            ⟨(some 22), none, .call 15 [(.tmp 20), (.tmp 21)]⟩,
            ⟨(some 8), none, .op (.alloc 24 (.rows 32 1 (fun _ => (.one (.int .u8 0) .nil)) .nil))⟩,
            ⟨none, none, .op (.store 32 (.tmp 8) (.tmp 22))⟩])
          (.seq
           (.region [⟨(some 23), none, .op (.move (.tmp 5))⟩,
             ⟨(some 24), none, .op (.move (.tmp 23))⟩,
             ⟨(some 25), some (24, true), .op (.load (some 32) (.tmp 6))⟩,
             ⟨(some 26), some (24, true), .op (.load (some 32) (.tmp 8))⟩,
             ⟨(some 27), some (24, true), .op (.ar false 32 .u8 (.tmp 25) (.tmp 26))⟩,
             ⟨(some 28), none, .op (.pick (.tmp 24) (.tmp 27) (.const (.bool false)))⟩,
             ⟨(some 4), none, .op (.move (.tmp 28))⟩])
           (.ret))))
        (.skip)))
      (.seq
       (.region [⟨(some 29), none, .op (.bsl 1 0 5 (.one (.int .u8 0) .nil) [])⟩,
         ⟨(some 30), none, .op (.move (.tmp 0))⟩,
         ⟨(some 31), none, .op (.app 1 1 5 (.tmp 29) (.tmp 30))⟩,
         ⟨(some 32), none, .op (.move (.tmp 0))⟩,
         ⟨(some 33), none, .op (.lenSl (.tmp 32))⟩,
         ⟨(some 34), none, .op (.bin .sub (.const (.int .i64 64)) (.tmp 33))⟩,
         ⟨(some 35), none, .op (.appZ 1 1 5 (.one (.int .u8 0) .nil) (.tmp 31) (.tmp 34))⟩,
         ⟨(some 9), none, .op (.move (.tmp 35))⟩])
       (.seq
        (.region [⟨(some 36), none, .op (.move (.tmp 9))⟩,
          ⟨(some 37), none, .op (.move (.tmp 1))⟩,
          ⟨(some 38), none, .call 15 [(.tmp 36), (.tmp 37)]⟩,
          ⟨(some 10), none, .op (.alloc 24 (.rows 32 1 (fun _ => (.one (.int .u8 0) .nil)) .nil))⟩,
          ⟨none, none, .op (.store 32 (.tmp 10) (.tmp 38))⟩])
        (.seq
         (.region [⟨(some 39), none, .op (.move (.tmp 5))⟩,
           ⟨(some 40), none, .op (.move (.tmp 39))⟩,
           ⟨(some 41), some (40, true), .op (.load (some 32) (.tmp 6))⟩,
           ⟨(some 42), some (40, true), .op (.load (some 32) (.tmp 10))⟩,
           ⟨(some 43), some (40, true), .op (.ar false 32 .u8 (.tmp 41) (.tmp 42))⟩,
           ⟨(some 44), none, .op (.pick (.tmp 40) (.tmp 43) (.const (.bool false)))⟩,
           ⟨(some 4), none, .op (.move (.tmp 44))⟩])
         (.ret)))))))
def r6 : List LRes := [.tmp 4]
theorem body6 : Tryd.f6.body.bind (compileC Tryd.prog) = some c6 := by kernel_rfl
theorem res6 : compileRes Tryd.prog Tryd.f6.results.toList = some r6 := by kernel_rfl
theorem has6 : hasBody Tryd.prog 6 = true := by kernel_rfl
theorem enter6 {args : LVals} {h : LHeap} {R : LEnd → LHeap → Prop} (hk : 45 - lvsLen args = 43) (hw : initK args 43 fun t => lwp Tryd.prog h.length c6 (bodyQ r6 R) t h) : LCalls Tryd.prog 6 args h R := LCalls.enter Tryd.func6 body6 has6 res6 _ (by rw [Tryd.ntmps6]; exact hk) hw
/-- palatine/palatinelaw07.awake -/
def c12 : LCode :=
  .seq
   (.region [⟨(some 0), none, .op (.move (.const (.bool false)))⟩])
   (.seq
    (.region [⟨(some 4), none, .call 13 [(.const (.slice ⟨0, [], 0⟩ 0 0 0 0 (some 0)))]⟩,
      ⟨(some 5), none, .op (.bar 1 4 (.one (.int .u8 0) .nil) [(0, (.const (.int .u8 227))), (1, (.const (.int .u8 176))), (2, (.const (.int .u8 196))), (3, (.const (.int .u8 66)))])⟩,
      ⟨(some 6), none, .call 33 [(.tmp 4), (.tmp 5)]⟩,
      ⟨(some 1), none, .op (.move (.tmp 6))⟩])
    (.seq
     (.region [⟨(some 7), none, .op (.bsl 1 3 5 (.one (.int .u8 0) .nil) [(0, (.const (.int .u8 97))), (1, (.const (.int .u8 98))), (2, (.const (.int .u8 99)))])⟩,
       ⟨(some 8), none, .call 13 [(.tmp 7)]⟩,
       ⟨(some 9), none, .op (.bar 1 4 (.one (.int .u8 0) .nil) [(0, (.const (.int .u8 186))), (1, (.const (.int .u8 120))), (2, (.const (.int .u8 22))), (3, (.const (.int .u8 191)))])⟩,
       ⟨(some 10), none, .call 33 [(.tmp 8), (.tmp 9)]⟩,
       ⟨(some 2), none, .op (.move (.tmp 10))⟩])
     (.seq
      (.region [⟨(some 11), none, .op (.bsl 1 3 5 (.one (.int .u8 0) .nil) [(0, (.const (.int .u8 107))), (1, (.const (.int .u8 101))), (2, (.const (.int .u8 121)))])⟩,
        ⟨(some 12), none, .op (.slId (.tmp 11))⟩,
        ⟨(some 13), none, .op (.bsl 1 43 5 (.one (.int .u8 0) .nil) [(0, (.const (.int .u8 84))), (1, (.const (.int .u8 104))), (2, (.const (.int .u8 101))), (3, (.const (.int .u8 32))), (4, (.const (.int .u8 113))), (5, (.const (.int .u8 117))), (6, (.const (.int .u8 105))), (7, (.const (.int .u8 99))), (8, (.const (.int .u8 107))), (9, (.const (.int .u8 32))), (10, (.const (.int .u8 98))), (11, (.const (.int .u8 114))), (12, (.const (.int .u8 111))), (13, (.const (.int .u8 119))), (14, (.const (.int .u8 110))), (15, (.const (.int .u8 32))), (16, (.const (.int .u8 102))), (17, (.const (.int .u8 111))), (18, (.const (.int .u8 120))), (19, (.const (.int .u8 32))), (20, (.const (.int .u8 106))), (21, (.const (.int .u8 117))), (22, (.const (.int .u8 109))), (23, (.const (.int .u8 112))), (24, (.const (.int .u8 115))), (25, (.const (.int .u8 32))), (26, (.const (.int .u8 111))), (27, (.const (.int .u8 118))), (28, (.const (.int .u8 101))), (29, (.const (.int .u8 114))), (30, (.const (.int .u8 32))), (31, (.const (.int .u8 116))), (32, (.const (.int .u8 104))), (33, (.const (.int .u8 101))), (34, (.const (.int .u8 32))), (35, (.const (.int .u8 108))), (36, (.const (.int .u8 97))), (37, (.const (.int .u8 122))), (38, (.const (.int .u8 121))), (39, (.const (.int .u8 32))), (40, (.const (.int .u8 100))), (41, (.const (.int .u8 111))), (42, (.const (.int .u8 103)))])⟩,
        ⟨(some 14), none, .op (.slId (.tmp 13))⟩,
        ⟨(some 15), none, .call 15 [(.tmp 12), (.tmp 14)]⟩,
        ⟨(some 16), none, .op (.bar 1 4 (.one (.int .u8 0) .nil) [(0, (.const (.int .u8 247))), (1, (.const (.int .u8 188))), (2, (.const (.int .u8 131))), (3, (.const (.int .u8 244)))])⟩,
        ⟨(some 17), none, .call 33 [(.tmp 15), (.tmp 16)]⟩,
        ⟨(some 3), none, .op (.move (.tmp 17))⟩])
      (.seq
       (.region [⟨(some 18), none, .op (.move (.tmp 1))⟩,
         ⟨(some 19), none, .op (.move (.tmp 18))⟩,
         ⟨(some 20), some (19, true), .op (.move (.tmp 2))⟩,
         ⟨(some 21), none, .op (.pick (.tmp 19) (.tmp 20) (.const (.bool false)))⟩,
         ⟨(some 22), none, .op (.move (.tmp 21))⟩,
         ⟨(some 23), some (22, true), .op (.move (.tmp 3))⟩,
         ⟨(some 24), none, .op (.pick (.tmp 22) (.tmp 23) (.const (.bool false)))⟩,
         ⟨(some 0), none, .op (.move (.tmp 24))⟩])
       (.ret)))))
def r12 : List LRes := [.tmp 0]
theorem body12 : Tryd.f12.body.bind (compileC Tryd.prog) = some c12 := by kernel_rfl
theorem res12 : compileRes Tryd.prog Tryd.f12.results.toList = some r12 := by kernel_rfl
theorem has12 : hasBody Tryd.prog 12 = true := by kernel_rfl
theorem enter12 {args : LVals} {h : LHeap} {R : LEnd → LHeap → Prop} (hk : 25 - lvsLen args = 25) (hw : initK args 25 fun t => lwp Tryd.prog h.length c12 (bodyQ r12 R) t h) : LCalls Tryd.prog 12 args h R := LCalls.enter Tryd.func12 body12 has12 res12 _ (by rw [Tryd.ntmps12]; exact hk) hw
/-- palatine/sha.Sum -/
def c13 : LCode :=
  .seq
   (.region [⟨(some 2), none, .op (.alloc 24 (.rows 32 1 (fun _ => (.one (.int .u8 0) .nil)) .nil))⟩])
   (.seq
    (.region [⟨(some 4), none, .call 17 []⟩,
      ⟨(some 3), none, .op (.move (.tmp 4))⟩])
    (.seq
     (.region [⟨(some 5), none, .op (.move (.tmp 3))⟩,
       ⟨(some 6), none, .op (.move (.tmp 0))⟩,
       ⟨(some 7), none, .call 18 [(.tmp 5), (.tmp 6)]⟩])
     (.seq
      (.region [⟨(some 8), none, .op (.move (.tmp 3))⟩,
        ⟨(some 9), none, .call 19 [(.tmp 8)]⟩,
        ⟨none, none, .op (.store 32 (.tmp 2) (.tmp 9))⟩])
      (.ret))))
def r13 : List LRes := [.cell 2 (some 32)]
theorem body13 : Tryd.f13.body.bind (compileC Tryd.prog) = some c13 := by kernel_rfl
theorem res13 : compileRes Tryd.prog Tryd.f13.results.toList = some r13 := by kernel_rfl
theorem has13 : hasBody Tryd.prog 13 = true := by kernel_rfl
theorem enter13 {args : LVals} {h : LHeap} {R : LEnd → LHeap → Prop} (hk : 10 - lvsLen args = 9) (hw : initK args 9 fun t => lwp Tryd.prog h.length c13 (bodyQ r13 R) t h) : LCalls Tryd.prog 13 args h R := LCalls.enter Tryd.func13 body13 has13 res13 _ (by rw [Tryd.ntmps13]; exact hk) hw
/-- palatine/palatineref07.Sum -/
def c14 : LCode :=
  .seq
   (.region [⟨(some 2), none, .op (.alloc 24 (.rows 32 1 (fun _ => (.one (.int .u8 0) .nil)) .nil))⟩])
   (.seq
    (.region [⟨(some 19), none, .op (.move (.tmp 0))⟩,
      ⟨(some 20), none, .call 34 [(.tmp 19)]⟩,
      ⟨(some 3), none, .op (.move (.tmp 20))⟩])
    (.seq
     (.region [⟨(some 21), none, .call 35 []⟩,
       ⟨(some 4), none, .op (.alloc 69 (.rows 8 1 (fun _ => (.one (.int .u32 0) .nil)) .nil))⟩,
       ⟨none, none, .op (.store 8 (.tmp 4) (.tmp 21))⟩])
     (.seq
      (.region [⟨(some 22), none, .call 36 []⟩,
        ⟨(some 5), none, .op (.alloc 71 (.rows 64 1 (fun _ => (.one (.int .u32 0) .nil)) .nil))⟩,
        ⟨none, none, .op (.store 64 (.tmp 5) (.tmp 22))⟩])
      (.seq
       (.seq
        (.region [⟨(some 6), none, .op (.move (.const (.int .i64 0)))⟩])
        (.block 0
         (.loop
          (.seq
           (.seq
            (.region [⟨(some 23), none, .op (.move (.tmp 6))⟩,
              ⟨(some 24), none, .op (.move (.tmp 3))⟩,
              ⟨(some 25), none, .op (.lenSl (.tmp 24))⟩,
              ⟨(some 26), none, .op (.bin .lss (.tmp 23) (.tmp 25))⟩])
            (.cond (.tmp 26)
             (.skip)
             (.exit 0)))
           (.seq
            (.block 1
             (.seq
              (.region [⟨(some 7), none, .op (.alloc 71 (.rows 64 1 (fun _ => (.one (.int .u32 0) .nil)) .nil))⟩])
              (.seq
               (.seq
                (.region [⟨(some 8), none, .op (.move (.const (.int .i64 0)))⟩])
                (.block 2
                 (.loop
                  (.seq
                   (.seq
                    (.region [⟨(some 29), none, .op (.move (.tmp 8))⟩,
                      ⟨(some 30), none, .op (.bin .lss (.tmp 29) (.const (.int .i64 16)))⟩])
                    (.cond (.tmp 30)
                     (.skip)
                     (.exit 2)))
                   (.seq
                    (.block 3
                     (.draws [(0, [], ⟨(some 33), none, .op (.move (.tmp 8))⟩),
                       (1, [0], ⟨(some 34), none, .op (.move (.tmp 3))⟩),
                       (2, [0, 1], ⟨(some 35), none, .op (.move (.tmp 6))⟩),
                       (3, [0, 1, 2], ⟨(some 36), none, .op (.move (.tmp 8))⟩),
                       (4, [0, 1, 2], ⟨(some 37), none, .op (.bin .mul (.const (.int .i64 4)) (.tmp 36))⟩),
                       (5, [0, 1], ⟨(some 38), none, .op (.bin .add (.tmp 35) (.tmp 37))⟩),
                       (6, [0], ⟨(some 39), none, .op (.idxSl 1 (.tmp 34) (.tmp 38))⟩),
                       (7, [0], ⟨(some 40), none, .op (.load none (.tmp 39))⟩),
                       (8, [0], ⟨(some 41), none, .op (.toInt .u32 (.tmp 40))⟩),
                       (9, [0], ⟨(some 42), none, .op (.shc true 16777216 .u32 (.tmp 41))⟩),
                       (10, [0, 1, 2, 3, 4, 5, 6, 7, 8, 9], ⟨(some 43), none, .op (.move (.tmp 3))⟩),
                       (11, [0, 1, 2, 3, 4, 5, 6, 7, 8, 9, 10], ⟨(some 44), none, .op (.move (.tmp 6))⟩),
                       (12, [0, 1, 2, 3, 4, 5, 6, 7, 8, 9, 10, 11], ⟨(some 45), none, .op (.move (.tmp 8))⟩),
                       (13, [0, 1, 2, 3, 4, 5, 6, 7, 8, 9, 10, 11], ⟨(some 46), none, .op (.bin .mul (.const (.int .i64 4)) (.tmp 45))⟩),
                       (14, [0, 1, 2, 3, 4, 5, 6, 7, 8, 9, 10], ⟨(some 47), none, .op (.bin .add (.tmp 44) (.tmp 46))⟩),
                       (15, [0, 1, 2, 3, 4, 5, 6, 7, 8, 9, 10], ⟨(some 48), none, .op (.bin .add (.tmp 47) (.const (.int .i64 1)))⟩),
                       (16, [0, 1, 2, 3, 4, 5, 6, 7, 8, 9], ⟨(some 49), none, .op (.idxSl 1 (.tmp 43) (.tmp 48))⟩),
                       (17, [0, 1, 2, 3, 4, 5, 6, 7, 8, 9], ⟨(some 50), none, .op (.load none (.tmp 49))⟩),
                       (18, [0, 1, 2, 3, 4, 5, 6, 7, 8, 9], ⟨(some 51), none, .op (.toInt .u32 (.tmp 50))⟩),
                       (19, [0, 1, 2, 3, 4, 5, 6, 7, 8, 9], ⟨(some 52), none, .op (.shc true 65536 .u32 (.tmp 51))⟩),
                       (20, [0], ⟨(some 53), none, .op (.bin .add (.tmp 42) (.tmp 52))⟩),
                       (21, [0, 1, 2, 3, 4, 5, 6, 7, 8, 9, 10, 11, 12, 13, 14, 15, 16, 17, 18, 19, 20], ⟨(some 54), none, .op (.move (.tmp 3))⟩),
                       (22, [0, 1, 2, 3, 4, 5, 6, 7, 8, 9, 10, 11, 12, 13, 14, 15, 16, 17, 18, 19, 20, 21], ⟨(some 55), none, .op (.move (.tmp 6))⟩),
                       (23, [0, 1, 2, 3, 4, 5, 6, 7, 8, 9, 10, 11, 12, 13, 14, 15, 16, 17, 18, 19, 20, 21, 22], ⟨(some 56), none, .op (.move (.tmp 8))⟩),
                       (24, [0, 1, 2, 3, 4, 5, 6, 7, 8, 9, 10, 11, 12, 13, 14, 15, 16, 17, 18, 19, 20, 21, 22], ⟨(some 57), none, .op (.bin .mul (.const (.int .i64 4)) (.tmp 56))⟩),
                       (25, [0, 1, 2, 3, 4, 5, 6, 7, 8, 9, 10, 11, 12, 13, 14, 15, 16, 17, 18, 19, 20, 21], ⟨(some 58), none, .op (.bin .add (.tmp 55) (.tmp 57))⟩),
                       (26, [0, 1, 2, 3, 4, 5, 6, 7, 8, 9, 10, 11, 12, 13, 14, 15, 16, 17, 18, 19, 20, 21], ⟨(some 59), none, .op (.bin .add (.tmp 58) (.const (.int .i64 2)))⟩),
                       (27, [0, 1, 2, 3, 4, 5, 6, 7, 8, 9, 10, 11, 12, 13, 14, 15, 16, 17, 18, 19, 20], ⟨(some 60), none, .op (.idxSl 1 (.tmp 54) (.tmp 59))⟩),
                       (28, [0, 1, 2, 3, 4, 5, 6, 7, 8, 9, 10, 11, 12, 13, 14, 15, 16, 17, 18, 19, 20], ⟨(some 61), none, .op (.load none (.tmp 60))⟩),
                       (29, [0, 1, 2, 3, 4, 5, 6, 7, 8, 9, 10, 11, 12, 13, 14, 15, 16, 17, 18, 19, 20], ⟨(some 62), none, .op (.toInt .u32 (.tmp 61))⟩),
                       (30, [0, 1, 2, 3, 4, 5, 6, 7, 8, 9, 10, 11, 12, 13, 14, 15, 16, 17, 18, 19, 20], ⟨(some 63), none, .op (.shc true 256 .u32 (.tmp 62))⟩),
                       (31, [0], ⟨(some 64), none, .op (.bin .add (.tmp 53) (.tmp 63))⟩),
                       (32, [0, 1, 2, 3, 4, 5, 6, 7, 8, 9, 10, 11, 12, 13, 14, 15, 16, 17, 18, 19, 20, 21, 22, 23, 24, 25, 26, 27, 28, 29, 30, 31], ⟨(some 65), none, .op (.move (.tmp 3))⟩),
                       (33, [0, 1, 2, 3, 4, 5, 6, 7, 8, 9, 10, 11, 12, 13, 14, 15, 16, 17, 18, 19, 20, 21, 22, 23, 24, 25, 26, 27, 28, 29, 30, 31, 32], ⟨(some 66), none, .op (.move (.tmp 6))⟩),
                       (34, [0, 1, 2, 3, 4, 5, 6, 7, 8, 9, 10, 11, 12, 13, 14, 15, 16, 17, 18, 19, 20, 21, 22, 23, 24, 25, 26, 27, 28, 29, 30, 31, 32, 33], ⟨(some 67), none, .op (.move (.tmp 8))⟩),
                       (35, [0, 1, 2, 3, 4, 5, 6, 7, 8, 9, 10, 11, 12, 13, 14, 15, 16, 17, 18, 19, 20, 21, 22, 23, 24, 25, 26, 27, 28, 29, 30, 31, 32, 33], ⟨(some 68), none, .op (.bin .mul (.const (.int .i64 4)) (.tmp 67))⟩),
                       (36, [0, 1, 2, 3, 4, 5, 6, 7, 8, 9, 10, 11, 12, 13, 14, 15, 16, 17, 18, 19, 20, 21, 22, 23, 24, 25, 26, 27, 28, 29, 30, 31, 32], ⟨(some 69), none, .op (.bin .add (.tmp 66) (.tmp 68))⟩),
                       (37, [0, 1, 2, 3, 4, 5, 6, 7, 8, 9, 10, 11, 12, 13, 14, 15, 16, 17, 18, 19, 20, 21, 22, 23, 24, 25, 26, 27, 28, 29, 30, 31, 32], ⟨(some 70), none, .op (.bin .add (.tmp 69) (.const (.int .i64 3)))⟩),
                       (38, [0, 1, 2, 3, 4, 5, 6, 7, 8, 9, 10, 11, 12, 13, 14, 15, 16, 17, 18, 19, 20, 21, 22, 23, 24, 25, 26, 27, 28, 29, 30, 31], ⟨(some 71), none, .op (.idxSl 1 (.tmp 65) (.tmp 70))⟩),
                       (39, [0, 1, 2, 3, 4, 5, 6, 7, 8, 9, 10, 11, 12, 13, 14, 15, 16, 17, 18, 19, 20, 21, 22, 23, 24, 25, 26, 27, 28, 29, 30, 31], ⟨(some 72), none, .op (.load none (.tmp 71))⟩),
                       (40, [0, 1, 2, 3, 4, 5, 6, 7, 8, 9, 10, 11, 12, 13, 14, 15, 16, 17, 18, 19, 20, 21, 22, 23, 24, 25, 26, 27, 28, 29, 30, 31], ⟨(some 73), none, .op (.toInt .u32 (.tmp 72))⟩),
                       (41, [0], ⟨(some 74), none, .op (.bin .add (.tmp 64) (.tmp 73))⟩),
                       (42, [], ⟨(some 75), none, .op (.idxArr 1 64 (.tmp 7) (.tmp 33))⟩),
                       (43, [], ⟨none, none, .op (.store 1 (.tmp 75) (.tmp 74))⟩)]))
                    (.region [⟨(some 31), none, .op (.move (.tmp 8))⟩,
                      ⟨(some 32), none, .op (.bin .add (.tmp 31) (.const (.int .i64 1)))⟩,
                      ⟨(some 8), none, .op (.move (.tmp 32))⟩]))))))
               (.seq
                (.seq
                 (.region [⟨(some 9), none, .op (.move (.const (.int .i64 16)))⟩])
                 (.block 4
                  (.loop
                   (.seq
                    (.seq
                     (.region [⟨(some 76), none, .op (.move (.tmp 9))⟩,
                       ⟨(some 77), none, .op (.bin .lss (.tmp 76) (.const (.int .i64 64)))⟩])
                     (.cond (.tmp 77)
                      (.skip)
                      (.exit 4)))
                    (.seq
                     (.block 5
                      (.seq
                       (.region [⟨(some 80), none, .op (.move (.tmp 9))⟩,
                         ⟨(some 81), none, .op (.bin .sub (.tmp 80) (.const (.int .i64 15)))⟩,
                         ⟨(some 82), none, .op (.idxArr 1 64 (.tmp 7) (.tmp 81))⟩,
                         ⟨(some 83), none, .op (.load none (.tmp 82))⟩,
                         ⟨(some 10), none, .op (.move (.tmp 83))⟩])
                       (.seq
                        (.region [⟨(some 84), none, .op (.move (.tmp 9))⟩,
                          ⟨(some 85), none, .op (.bin .sub (.tmp 84) (.const (.int .i64 2)))⟩,
                          ⟨(some 86), none, .op (.idxArr 1 64 (.tmp 7) (.tmp 85))⟩,
                          ⟨(some 87), none, .op (.load none (.tmp 86))⟩,
                          ⟨(some 11), none, .op (.move (.tmp 87))⟩])
                        (.draws [(0, [], ⟨(some 88), none, .op (.move (.tmp 9))⟩),
                          (1, [0], ⟨(some 89), none, .op (.move (.tmp 9))⟩),
                          (2, [0], ⟨(some 90), none, .op (.bin .sub (.tmp 89) (.const (.int .i64 16)))⟩),
                          (3, [0], ⟨(some 91), none, .op (.idxArr 1 64 (.tmp 7) (.tmp 90))⟩),
                          (4, [0], ⟨(some 92), none, .op (.load none (.tmp 91))⟩),
                          (5, [0, 1, 2, 3, 4], ⟨(some 93), none, .op (.move (.tmp 9))⟩),
                          (6, [0, 1, 2, 3, 4], ⟨(some 94), none, .op (.bin .sub (.tmp 93) (.const (.int .i64 7)))⟩),
                          (7, [0, 1, 2, 3, 4], ⟨(some 95), none, .op (.idxArr 1 64 (.tmp 7) (.tmp 94))⟩),
                          (8, [0, 1, 2, 3, 4], ⟨(some 96), none, .op (.load none (.tmp 95))⟩),
                          (9, [0], ⟨(some 97), none, .op (.bin .add (.tmp 92) (.tmp 96))⟩),
                          (10, [0, 1, 2, 3, 4, 5, 6, 7, 8, 9], ⟨(some 98), none, .op (.move (.tmp 10))⟩),
                          (11, [0, 1, 2, 3, 4, 5, 6, 7, 8, 9], ⟨(some 99), none, .call 37 [(.tmp 98), (.const (.int .i64 7))]⟩),
                          (12, [0, 1, 2, 3, 4, 5, 6, 7, 8, 9, 10, 11], ⟨(some 100), none, .op (.move (.tmp 10))⟩),
                          (13, [0, 1, 2, 3, 4, 5, 6, 7, 8, 9], ⟨(some 101), none, .call 37 [(.tmp 100), (.const (.int .i64 18))]⟩),
                          (14, [0, 1, 2, 3, 4, 5, 6, 7, 8, 9], ⟨(some 102), none, .op (.bin .xor (.tmp 99) (.tmp 101))⟩),
                          (15, [0, 1, 2, 3, 4, 5, 6, 7, 8, 9, 10, 11, 12, 13, 14], ⟨(some 103), none, .op (.move (.tmp 10))⟩),
                          (16, [0, 1, 2, 3, 4, 5, 6, 7, 8, 9, 10, 11, 12, 13, 14], ⟨(some 104), none, .op (.shc false 8 .u32 (.tmp 103))⟩),
                          (17, [0, 1, 2, 3, 4, 5, 6, 7, 8, 9], ⟨(some 105), none, .op (.bin .xor (.tmp 102) (.tmp 104))⟩),
                          (18, [0], ⟨(some 106), none, .op (.bin .add (.tmp 97) (.tmp 105))⟩),
                          (19, [0, 1, 2, 3, 4, 5, 6, 7, 8, 9, 10, 11, 12, 13, 14, 15, 16, 17, 18], ⟨(some 107), none, .op (.move (.tmp 11))⟩),
                          (20, [0, 1, 2, 3, 4, 5, 6, 7, 8, 9, 14, 15, 16, 17, 18], ⟨(some 108), none, .call 37 [(.tmp 107), (.const (.int .i64 17))]⟩),
                          (21, [0, 1, 2, 3, 4, 5, 6, 7, 8, 9, 10, 11, 12, 13, 14, 15, 16, 17, 18, 19, 20], ⟨(some 109), none, .op (.move (.tmp 11))⟩),
                          (22, [0, 1, 2, 3, 4, 5, 6, 7, 8, 9, 14, 15, 16, 17, 18], ⟨(some 110), none, .call 37 [(.tmp 109), (.const (.int .i64 19))]⟩),
                          (23, [0, 1, 2, 3, 4, 5, 6, 7, 8, 9, 14, 15, 16, 17, 18], ⟨(some 111), none, .op (.bin .xor (.tmp 108) (.tmp 110))⟩),
                          (24, [0, 1, 2, 3, 4, 5, 6, 7, 8, 9, 10, 11, 12, 13, 14, 15, 16, 17, 18, 19, 20, 21, 22, 23], ⟨(some 112), none, .op (.move (.tmp 11))⟩),
                          (25, [0, 1, 2, 3, 4, 5, 6, 7, 8, 9, 10, 11, 12, 13, 14, 15, 16, 17, 18, 19, 20, 21, 22, 23], ⟨(some 113), none, .op (.shc false 1024 .u32 (.tmp 112))⟩),
                          (26, [0, 1, 2, 3, 4, 5, 6, 7, 8, 9, 14, 15, 16, 17, 18], ⟨(some 114), none, .op (.bin .xor (.tmp 111) (.tmp 113))⟩),
                          (27, [0], ⟨(some 115), none, .op (.bin .add (.tmp 106) (.tmp 114))⟩),
                          (28, [], ⟨(some 116), none, .op (.idxArr 1 64 (.tmp 7) (.tmp 88))⟩),
                          (29, [], ⟨none, none, .op (.store 1 (.tmp 116) (.tmp 115))⟩)]))))
                     (.region [⟨(some 78), none, .op (.move (.tmp 9))⟩,
                       ⟨(some 79), none, .op (.bin .add (.tmp 78) (.const (.int .i64 1)))⟩,
                       ⟨(some 9), none, .op (.move (.tmp 79))⟩]))))))
                (.seq
                 (.region [⟨(some 117), none, .op (.load (some 8) (.tmp 4))⟩,
                   ⟨(some 12), none, .op (.alloc 69 (.rows 8 1 (fun _ => (.one (.int .u32 0) .nil)) .nil))⟩,
                   ⟨none, none, .op (.store 8 (.tmp 12) (.tmp 117))⟩])
                 (.seq
                  (.seq
                   (.region [⟨(some 13), none, .op (.move (.const (.int .i64 0)))⟩])
                   (.block 6
                    (.loop
                     (.seq
                      (.seq
                       (.region [⟨(some 118), none, .op (.move (.tmp 13))⟩,
                         ⟨(some 119), none, .op (.bin .lss (.tmp 118) (.const (.int .i64 64)))⟩])
                       (.cond (.tmp 119)
                        (.skip)
                        (.exit 6)))
                      (.seq
                       (.block 7
                        (.seq
                         (.draws [(0, [], ⟨(some 122), none, .op (.idxArr 1 8 (.tmp 12) (.const (.int .i64 7)))⟩),
                           (1, [], ⟨(some 123), none, .op (.load none (.tmp 122))⟩),
                           (2, [0, 1], ⟨(some 124), none, .op (.idxArr 1 8 (.tmp 12) (.const (.int .i64 4)))⟩),
                           (3, [0, 1], ⟨(some 125), none, .op (.load none (.tmp 124))⟩),
                           (4, [0, 1], ⟨(some 126), none, .call 37 [(.tmp 125), (.const (.int .i64 6))]⟩),
                           (5, [0, 1, 2, 3, 4], ⟨(some 127), none, .op (.idxArr 1 8 (.tmp 12) (.const (.int .i64 4)))⟩),
                           (6, [0, 1, 2, 3, 4], ⟨(some 128), none, .op (.load none (.tmp 127))⟩),
                           (7, [0, 1], ⟨(some 129), none, .call 37 [(.tmp 128), (.const (.int .i64 11))]⟩),
                           (8, [0, 1], ⟨(some 130), none, .op (.bin .xor (.tmp 126) (.tmp 129))⟩),
                           (9, [0, 1, 2, 3, 4, 5, 6, 7, 8], ⟨(some 131), none, .op (.idxArr 1 8 (.tmp 12) (.const (.int .i64 4)))⟩),
                           (10, [0, 1, 2, 3, 4, 5, 6, 7, 8], ⟨(some 132), none, .op (.load none (.tmp 131))⟩),
                           (11, [0, 1, 8], ⟨(some 133), none, .call 37 [(.tmp 132), (.const (.int .i64 25))]⟩),
                           (12, [0, 1], ⟨(some 134), none, .op (.bin .xor (.tmp 130) (.tmp 133))⟩),
                           (13, [], ⟨(some 135), none, .op (.bin .add (.tmp 123) (.tmp 134))⟩),
                           (14, [0, 1, 2, 3, 4, 5, 6, 7, 8, 9, 10, 11, 12, 13], ⟨(some 136), none, .op (.idxArr 1 8 (.tmp 12) (.const (.int .i64 4)))⟩),
                           (15, [0, 1, 2, 3, 4, 5, 6, 7, 8, 9, 10, 11, 12, 13], ⟨(some 137), none, .op (.load none (.tmp 136))⟩),
                           (16, [0, 1, 2, 3, 4, 5, 6, 7, 8, 9, 10, 11, 12, 13, 14, 15], ⟨(some 138), none, .op (.idxArr 1 8 (.tmp 12) (.const (.int .i64 5)))⟩),
                           (17, [0, 1, 2, 3, 4, 5, 6, 7, 8, 9, 10, 11, 12, 13, 14, 15], ⟨(some 139), none, .op (.load none (.tmp 138))⟩),
                           (18, [0, 1, 2, 3, 4, 5, 6, 7, 8, 9, 10, 11, 12, 13], ⟨(some 140), none, .op (.bin .and (.tmp 137) (.tmp 139))⟩),
                           (19, [0, 1, 2, 3, 4, 5, 6, 7, 8, 9, 10, 11, 12, 13, 14, 15, 16, 17, 18], ⟨(some 141), none, .op (.idxArr 1 8 (.tmp 12) (.const (.int .i64 4)))⟩),
                           (20, [0, 1, 2, 3, 4, 5, 6, 7, 8, 9, 10, 11, 12, 13, 14, 15, 16, 17, 18], ⟨(some 142), none, .op (.load none (.tmp 141))⟩),
                           (21, [0, 1, 2, 3, 4, 5, 6, 7, 8, 9, 10, 11, 12, 13, 14, 15, 16, 17, 18], ⟨(some 143), none, .op (.bin .sub (.const (.int .u32 4294967295)) (.tmp 142))⟩),
                           (22, [0, 1, 2, 3, 4, 5, 6, 7, 8, 9, 10, 11, 12, 13, 14, 15, 16, 17, 18, 19, 20, 21], ⟨(some 144), none, .op (.idxArr 1 8 (.tmp 12) (.const (.int .i64 6)))⟩),
                           (23, [0, 1, 2, 3, 4, 5, 6, 7, 8, 9, 10, 11, 12, 13, 14, 15, 16, 17, 18, 19, 20, 21], ⟨(some 145), none, .op (.load none (.tmp 144))⟩),
                           (24, [0, 1, 2, 3, 4, 5, 6, 7, 8, 9, 10, 11, 12, 13, 14, 15, 16, 17, 18], ⟨(some 146), none, .op (.bin .and (.tmp 143) (.tmp 145))⟩),
                           (25, [0, 1, 2, 3, 4, 5, 6, 7, 8, 9, 10, 11, 12, 13], ⟨(some 147), none, .op (.bin .xor (.tmp 140) (.tmp 146))⟩),
                           (26, [], ⟨(some 148), none, .op (.bin .add (.tmp 135) (.tmp 147))⟩),
                           (27, [0, 1, 2, 3, 4, 5, 6, 7, 8, 9, 10, 11, 12, 13, 14, 15, 16, 17, 18, 19, 20, 21, 22, 23, 24, 25, 26], ⟨(some 149), none, .op (.move (.tmp 13))⟩),
                           (28, [0, 1, 2, 3, 4, 5, 6, 7, 8, 9, 10, 11, 12, 13, 14, 15, 16, 17, 18, 19, 20, 21, 22, 23, 24, 25, 26], ⟨(some 150), none, .op (.idxArr 1 64 (.tmp 5) (.tmp 149))⟩),
                           (29, [0, 1, 2, 3, 4, 5, 6, 7, 8, 9, 10, 11, 12, 13, 14, 15, 16, 17, 18, 19, 20, 21, 22, 23, 24, 25, 26], ⟨(some 151), none, .op (.load none (.tmp 150))⟩),
                           (30, [], ⟨(some 152), none, .op (.bin .add (.tmp 148) (.tmp 151))⟩),
                           (31, [0, 1, 2, 3, 4, 5, 6, 7, 8, 9, 10, 11, 12, 13, 14, 15, 16, 17, 18, 19, 20, 21, 22, 23, 24, 25, 26, 27, 28, 29, 30], ⟨(some 153), none, .op (.move (.tmp 13))⟩),
                           (32, [0, 1, 2, 3, 4, 5, 6, 7, 8, 9, 10, 11, 12, 13, 14, 15, 16, 17, 18, 19, 20, 21, 22, 23, 24, 25, 26, 27, 28, 29, 30], ⟨(some 154), none, .op (.idxArr 1 64 (.tmp 7) (.tmp 153))⟩),
                           (33, [0, 1, 2, 3, 4, 5, 6, 7, 8, 9, 10, 11, 12, 13, 14, 15, 16, 17, 18, 19, 20, 21, 22, 23, 24, 25, 26, 27, 28, 29, 30], ⟨(some 155), none, .op (.load none (.tmp 154))⟩),
                           (34, [], ⟨(some 156), none, .op (.bin .add (.tmp 152) (.tmp 155))⟩),
                           (35, [], ⟨(some 14), none, .op (.move (.tmp 156))⟩)])
                         (.seq
                          (.draws [(0, [], ⟨(some 157), none, .op (.idxArr 1 8 (.tmp 12) (.const (.int .i64 0)))⟩),
                            (1, [], ⟨(some 158), none, .op (.load none (.tmp 157))⟩),
                            (2, [], ⟨(some 159), none, .call 37 [(.tmp 158), (.const (.int .i64 2))]⟩),
                            (3, [0, 1, 2], ⟨(some 160), none, .op (.idxArr 1 8 (.tmp 12) (.const (.int .i64 0)))⟩),
                            (4, [0, 1, 2], ⟨(some 161), none, .op (.load none (.tmp 160))⟩),
                            (5, [], ⟨(some 162), none, .call 37 [(.tmp 161), (.const (.int .i64 13))]⟩),
                            (6, [], ⟨(some 163), none, .op (.bin .xor (.tmp 159) (.tmp 162))⟩),
                            (7, [0, 1, 2, 3, 4, 5, 6], ⟨(some 164), none, .op (.idxArr 1 8 (.tmp 12) (.const (.int .i64 0)))⟩),
                            (8, [0, 1, 2, 3, 4, 5, 6], ⟨(some 165), none, .op (.load none (.tmp 164))⟩),
                            (9, [6], ⟨(some 166), none, .call 37 [(.tmp 165), (.const (.int .i64 22))]⟩),
                            (10, [], ⟨(some 167), none, .op (.bin .xor (.tmp 163) (.tmp 166))⟩),
                            (11, [0, 1, 2, 3, 4, 5, 6, 7, 8, 9, 10], ⟨(some 168), none, .op (.idxArr 1 8 (.tmp 12) (.const (.int .i64 0)))⟩),
                            (12, [0, 1, 2, 3, 4, 5, 6, 7, 8, 9, 10], ⟨(some 169), none, .op (.load none (.tmp 168))⟩),
                            (13, [0, 1, 2, 3, 4, 5, 6, 7, 8, 9, 10, 11, 12], ⟨(some 170), none, .op (.idxArr 1 8 (.tmp 12) (.const (.int .i64 1)))⟩),
                            (14, [0, 1, 2, 3, 4, 5, 6, 7, 8, 9, 10, 11, 12], ⟨(some 171), none, .op (.load none (.tmp 170))⟩),
                            (15, [0, 1, 2, 3, 4, 5, 6, 7, 8, 9, 10], ⟨(some 172), none, .op (.bin .and (.tmp 169) (.tmp 171))⟩),
                            (16, [0, 1, 2, 3, 4, 5, 6, 7, 8, 9, 10, 11, 12, 13, 14, 15], ⟨(some 173), none, .op (.idxArr 1 8 (.tmp 12) (.const (.int .i64 0)))⟩),
                            (17, [0, 1, 2, 3, 4, 5, 6, 7, 8, 9, 10, 11, 12, 13, 14, 15], ⟨(some 174), none, .op (.load none (.tmp 173))⟩),
                            (18, [0, 1, 2, 3, 4, 5, 6, 7, 8, 9, 10, 11, 12, 13, 14, 15, 16, 17], ⟨(some 175), none, .op (.idxArr 1 8 (.tmp 12) (.const (.int .i64 2)))⟩),
                            (19, [0, 1, 2, 3, 4, 5, 6, 7, 8, 9, 10, 11, 12, 13, 14, 15, 16, 17], ⟨(some 176), none, .op (.load none (.tmp 175))⟩),
                            (20, [0, 1, 2, 3, 4, 5, 6, 7, 8, 9, 10, 11, 12, 13, 14, 15], ⟨(some 177), none, .op (.bin .and (.tmp 174) (.tmp 176))⟩),
                            (21, [0, 1, 2, 3, 4, 5, 6, 7, 8, 9, 10], ⟨(some 178), none, .op (.bin .xor (.tmp 172) (.tmp 177))⟩),
                            (22, [0, 1, 2, 3, 4, 5, 6, 7, 8, 9, 10, 11, 12, 13, 14, 15, 16, 17, 18, 19, 20, 21], ⟨(some 179), none, .op (.idxArr 1 8 (.tmp 12) (.const (.int .i64 1)))⟩),
                            (23, [0, 1, 2, 3, 4, 5, 6, 7, 8, 9, 10, 11, 12, 13, 14, 15, 16, 17, 18, 19, 20, 21], ⟨(some 180), none, .op (.load none (.tmp 179))⟩),
                            (24, [0, 1, 2, 3, 4, 5, 6, 7, 8, 9, 10, 11, 12, 13, 14, 15, 16, 17, 18, 19, 20, 21, 22, 23], ⟨(some 181), none, .op (.idxArr 1 8 (.tmp 12) (.const (.int .i64 2)))⟩),
                            (25, [0, 1, 2, 3, 4, 5, 6, 7, 8, 9, 10, 11, 12, 13, 14, 15, 16, 17, 18, 19, 20, 21, 22, 23], ⟨(some 182), none, .op (.load none (.tmp 181))⟩),
                            (26, [0, 1, 2, 3, 4, 5, 6, 7, 8, 9, 10, 11, 12, 13, 14, 15, 16, 17, 18, 19, 20, 21], ⟨(some 183), none, .op (.bin .and (.tmp 180) (.tmp 182))⟩),
                            (27, [0, 1, 2, 3, 4, 5, 6, 7, 8, 9, 10], ⟨(some 184), none, .op (.bin .xor (.tmp 178) (.tmp 183))⟩),
                            (28, [], ⟨(some 185), none, .op (.bin .add (.tmp 167) (.tmp 184))⟩),
                            (29, [], ⟨(some 15), none, .op (.move (.tmp 185))⟩)])
                          (.seq
                           (.region [⟨(some 186), none, .op (.idxArr 1 8 (.tmp 12) (.const (.int .i64 6)))⟩,
                             ⟨(some 187), none, .op (.load none (.tmp 186))⟩,
                             ⟨(some 188), none, .op (.idxArr 1 8 (.tmp 12) (.const (.int .i64 7)))⟩,
                             ⟨none, none, .op (.store 1 (.tmp 188) (.tmp 187))⟩])
                           (.seq
                            (.region [⟨(some 189), none, .op (.idxArr 1 8 (.tmp 12) (.const (.int .i64 5)))⟩,
                              ⟨(some 190), none, .op (.load none (.tmp 189))⟩,
                              ⟨(some 191), none, .op (.idxArr 1 8 (.tmp 12) (.const (.int .i64 6)))⟩,
                              ⟨none, none, .op (.store 1 (.tmp 191) (.tmp 190))⟩])
                            (.seq
                             (.region [⟨(some 192), none, .op (.idxArr 1 8 (.tmp 12) (.const (.int .i64 4)))⟩,
                               ⟨(some 193), none, .op (.load none (.tmp 192))⟩,
                               ⟨(some 194), none, .op (.idxArr 1 8 (.tmp 12) (.const (.int .i64 5)))⟩,
                               ⟨none, none, .op (.store 1 (.tmp 194) (.tmp 193))⟩])
                             (.seq
                              (.region [⟨(some 195), none, .op (.idxArr 1 8 (.tmp 12) (.const (.int .i64 3)))⟩,
                                ⟨(some 196), none, .op (.load none (.tmp 195))⟩,
                                ⟨(some 197), none, .op (.move (.tmp 14))⟩,
                                ⟨(some 198), none, .op (.bin .add (.tmp 196) (.tmp 197))⟩,
                                ⟨(some 199), none, .op (.idxArr 1 8 (.tmp 12) (.const (.int .i64 4)))⟩,
                                ⟨none, none, .op (.store 1 (.tmp 199) (.tmp 198))⟩])
                              (.seq
                               (.region [⟨(some 200), none, .op (.idxArr 1 8 (.tmp 12) (.const (.int .i64 2)))⟩,
                                 ⟨(some 201), none, .op (.load none (.tmp 200))⟩,
                                 ⟨(some 202), none, .op (.idxArr 1 8 (.tmp 12) (.const (.int .i64 3)))⟩,
                                 ⟨none, none, .op (.store 1 (.tmp 202) (.tmp 201))⟩])
                               (.seq
                                (.region [⟨(some 203), none, .op (.idxArr 1 8 (.tmp 12) (.const (.int .i64 1)))⟩,
                                  ⟨(some 204), none, .op (.load none (.tmp 203))⟩,
                                  ⟨(some 205), none, .op (.idxArr 1 8 (.tmp 12) (.const (.int .i64 2)))⟩,
                                  ⟨none, none, .op (.store 1 (.tmp 205) (.tmp 204))⟩])
                                (.seq
                                 (.region [⟨(some 206), none, .op (.idxArr 1 8 (.tmp 12) (.const (.int .i64 0)))⟩,
                                   ⟨(some 207), none, .op (.load none (.tmp 206))⟩,
                                   ⟨(some 208), none, .op (.idxArr 1 8 (.tmp 12) (.const (.int .i64 1)))⟩,
                                   ⟨none, none, .op (.store 1 (.tmp 208) (.tmp 207))⟩])
                                 (.region [⟨(some 209), none, .op (.move (.tmp 14))⟩,
                                   ⟨(some 210), none, .op (.move (.tmp 15))⟩,
                                   ⟨(some 211), none, .op (.bin .add (.tmp 209) (.tmp 210))⟩,
                                   ⟨(some 212), none, .op (.idxArr 1 8 (.tmp 12) (.const (.int .i64 0)))⟩,
                                   ⟨none, none, .op (.store 1 (.tmp 212) (.tmp 211))⟩])))))))))))
                       (.region [⟨(some 120), none, .op (.move (.tmp 13))⟩,
                         ⟨(some 121), none, .op (.bin .add (.tmp 120) (.const (.int .i64 1)))⟩,
                         ⟨(some 13), none, .op (.move (.tmp 121))⟩]))))))
                  (.seq
                   (.region [⟨(some 16), none, .op (.move (.const (.int .i64 0)))⟩])
                   (.block 8
                    (.loop
                     (.seq
                      (.seq
                       (.region [⟨(some 213), none, .op (.move (.tmp 16))⟩,
                         ⟨(some 214), none, .op (.bin .lss (.tmp 213) (.const (.int .i64 8)))⟩])
                       (.cond (.tmp 214)
                        (.skip)
                        (.exit 8)))
                      (.seq
                       (.block 9
                        (.draws [(0, [], ⟨(some 217), none, .op (.move (.tmp 16))⟩),
                          (1, [0], ⟨(some 218), none, .op (.move (.tmp 16))⟩),
                          (2, [0], ⟨(some 219), none, .op (.idxArr 1 8 (.tmp 4) (.tmp 218))⟩),
                          (3, [0], ⟨(some 220), none, .op (.load none (.tmp 219))⟩),
                          (4, [0, 1, 2, 3], ⟨(some 221), none, .op (.move (.tmp 16))⟩),
                          (5, [0, 1, 2, 3], ⟨(some 222), none, .op (.idxArr 1 8 (.tmp 12) (.tmp 221))⟩),
                          (6, [0, 1, 2, 3], ⟨(some 223), none, .op (.load none (.tmp 222))⟩),
                          (7, [0], ⟨(some 224), none, .op (.bin .add (.tmp 220) (.tmp 223))⟩),
                          (8, [], ⟨(some 225), none, .op (.idxArr 1 8 (.tmp 4) (.tmp 217))⟩),
                          (9, [], ⟨none, none, .op (.store 1 (.tmp 225) (.tmp 224))⟩)]))
                       (.region [⟨(some 215), none, .op (.move (.tmp 16))⟩,
                         ⟨(some 216), none, .op (.bin .add (.tmp 215) (.const (.int .i64 1)))⟩,
                         ⟨(some 16), none, .op (.move (.tmp 216))⟩]))))))))))))
            (.region [⟨(some 27), none, .op (.move (.tmp 6))⟩,
              ⟨(some 28), none, .op (.bin .add (.tmp 27) (.const (.int .i64 64)))⟩,
              ⟨(some 6), none, .op (.move (.tmp 28))⟩]))))))
       (.seq
        (.region [⟨(some 17), none, .op (.alloc 24 (.rows 32 1 (fun _ => (.one (.int .u8 0) .nil)) .nil))⟩])
        (.seq
         (.seq
          (.region [⟨(some 18), none, .op (.move (.const (.int .i64 0)))⟩])
          (.block 10
           (.loop
            (.seq
             (.seq
              (.region [⟨(some 226), none, .op (.move (.tmp 18))⟩,
                ⟨(some 227), none, .op (.bin .lss (.tmp 226) (.const (.int .i64 32)))⟩])
              (.cond (.tmp 227)
               (.skip)
               (.exit 10)))
             (.seq
              (.block 11
               (.region [⟨(some 230), none, .op (.move (.tmp 18))⟩,
                 ⟨(some 231), none, .op (.move (.tmp 18))⟩,
                 ⟨(some 232), none, .op (.bin .quo (.tmp 231) (.const (.int .i64 4)))⟩,
                 ⟨(some 233), none, .op (.idxArr 1 8 (.tmp 4) (.tmp 232))⟩,
                 ⟨(some 234), none, .op (.load none (.tmp 233))⟩,
                 ⟨(some 235), none, .op (.move (.tmp 18))⟩,
                 ⟨(some 236), none, .op (.bin .rem (.tmp 235) (.const (.int .i64 4)))⟩,
                 ⟨(some 237), none, .op (.bin .mul (.tmp 236) (.const (.int .i64 8)))⟩,
                 ⟨(some 238), none, .op (.bin .sub (.const (.int .i64 24)) (.tmp 237))⟩,
                 ⟨(some 239), none, .op (.bin .shr (.tmp 234) (.tmp 238))⟩,
                 ⟨(some 240), none, .op (.toInt .u8 (.tmp 239))⟩,
                 ⟨(some 241), none, .op (.idxArr 1 32 (.tmp 17) (.tmp 230))⟩,
                 ⟨none, none, .op (.store 1 (.tmp 241) (.tmp 240))⟩]))
              (.region [⟨(some 228), none, .op (.move (.tmp 18))⟩,
                ⟨(some 229), none, .op (.bin .add (.tmp 228) (.const (.int .i64 1)))⟩,
                ⟨(some 18), none, .op (.move (.tmp 229))⟩]))))))
         (.seq
          (.region [⟨(some 242), none, .op (.load (some 32) (.tmp 17))⟩,
            ⟨none, none, .op (.store 32 (.tmp 2) (.tmp 242))⟩])
          (.ret))))))))
def r14 : List LRes := [.cell 2 (some 32)]
theorem body14 : Tryd.f14.body.bind (compileC Tryd.prog) = some c14 := by kernel_rfl
theorem res14 : compileRes Tryd.prog Tryd.f14.results.toList = some r14 := by kernel_rfl
theorem has14 : hasBody Tryd.prog 14 = true := by kernel_rfl
theorem enter14 {args : LVals} {h : LHeap} {R : LEnd → LHeap → Prop} (hk : 243 - lvsLen args = 242) (hw : initK args 242 fun t => lwp Tryd.prog h.length c14 (bodyQ r14 R) t h) : LCalls Tryd.prog 14 args h R := LCalls.enter Tryd.func14 body14 has14 res14 _ (by rw [Tryd.ntmps14]; exact hk) hw
/-- palatine/sha.Mac -/
def c15 : LCode :=
  .seq
   (.region [⟨(some 4), none, .op (.alloc 24 (.rows 32 1 (fun _ => (.one (.int .u8 0) .nil)) .nil))⟩])
   (.seq
    (.region [⟨(some 8), none, .op (.move (.tmp 0))⟩,
      ⟨(some 9), none, .call 38 [(.tmp 8), (.const (.int .u8 54))]⟩,
      ⟨(some 5), none, .op (.move (.tmp 9))⟩])
    (.seq
     (.region [⟨(some 10), none, .op (.move (.tmp 5))⟩,
       ⟨(some 11), none, .op (.move (.tmp 1))⟩,
       ⟨(some 12), none, .call 18 [(.tmp 10), (.tmp 11)]⟩])
     (.seq
      (.region [⟨(some 13), none, .op (.move (.tmp 5))⟩,
        ⟨(some 14), none, .call 19 [(.tmp 13)]⟩,
        ⟨(some 6), none, .op (.alloc 24 (.rows 32 1 (fun _ => (.one (.int .u8 0) .nil)) .nil))⟩,
        ⟨none, none, .op (.store 32 (.tmp 6) (.tmp 14))⟩])
      (.seq
       (.region [⟨(some 15), none, .op (.move (.tmp 0))⟩,
         ⟨(some 16), none, .call 38 [(.tmp 15), (.const (.int .u8 92))]⟩,
         ⟨(some 7), none, .op (.move (.tmp 16))⟩])
       (.seq
        (.region [⟨(some 17), none, .op (.move (.tmp 7))⟩,
          ⟨(some 18), none, .op (.slArr 1 32 (.tmp 6) none none)⟩,
          ⟨(some 19), none, .call 18 [(.tmp 17), (.tmp 18)]⟩])
        (.seq
         (.region [⟨(some 20), none, .op (.move (.tmp 7))⟩,
           ⟨(some 21), none, .call 19 [(.tmp 20)]⟩,
           ⟨none, none, .op (.store 32 (.tmp 4) (.tmp 21))⟩])
         (.ret)))))))
def r15 : List LRes := [.cell 4 (some 32)]
theorem body15 : Tryd.f15.body.bind (compileC Tryd.prog) = some c15 := by kernel_rfl
theorem res15 : compileRes Tryd.prog Tryd.f15.results.toList = some r15 := by kernel_rfl
theorem has15 : hasBody Tryd.prog 15 = true := by kernel_rfl
theorem enter15 {args : LVals} {h : LHeap} {R : LEnd → LHeap → Prop} (hk : 22 - lvsLen args = 20) (hw : initK args 20 fun t => lwp Tryd.prog h.length c15 (bodyQ r15 R) t h) : LCalls Tryd.prog 15 args h R := LCalls.enter Tryd.func15 body15 has15 res15 _ (by rw [Tryd.ntmps15]; exact hk) hw
/-- palatine/palatineref07.Mac -/
def c16 : LCode :=
  .seq
   (.region [⟨(some 4), none, .op (.alloc 24 (.rows 32 1 (fun _ => (.one (.int .u8 0) .nil)) .nil))⟩])
   (.seq
    (.region [⟨(some 11), none, .op (.bsl 1 0 5 (.one (.int .u8 0) .nil) [])⟩,
      ⟨(some 12), none, .op (.move (.tmp 0))⟩,
      ⟨(some 13), none, .op (.app 1 1 5 (.tmp 11) (.tmp 12))⟩,
      ⟨(some 5), none, .op (.move (.tmp 13))⟩])
    (.seq
     (.seq
      (.region [⟨(some 14), none, .op (.move (.tmp 5))⟩,
        ⟨(some 15), none, .op (.lenSl (.tmp 14))⟩,
        ⟨(some 16), none, .op (.bin .gtr (.tmp 15) (.const (.int .i64 64)))⟩])
      (.cond (.tmp 16)
       (.seq
        (.region [⟨(some 17), none, .op (.move (.tmp 0))⟩,
          ⟨(some 18), none, .call 14 [(.tmp 17)]⟩,
          ⟨(some 6), none, .op (.alloc 24 (.rows 32 1 (fun _ => (.one (.int .u8 0) .nil)) .nil))⟩,
          ⟨none, none, .op (.store 32 (.tmp 6) (.tmp 18))⟩])
        (.region [⟨(some 19), none, .op (.bsl 1 0 5 (.one (.int .u8 0) .nil) [])⟩,
          ⟨(some 20), none, .op (.slArr 1 32 (.tmp 6) none none)⟩,
          ⟨(some 21), none, .op (.app 1 1 5 (.tmp 19) (.tmp 20))⟩,
          ⟨(some 5), none, .op (.move (.tmp 21))⟩]))
       (.skip)))
     (.seq
      (.block 0
       (.loop
        (.seq
         (.seq
          (.region [⟨(some 22), none, .op (.move (.tmp 5))⟩,
            ⟨(some 23), none, .op (.lenSl (.tmp 22))⟩,
            ⟨(some 24), none, .op (.bin .lss (.tmp 23) (.const (.int .i64 64)))⟩])
          (.cond (.tmp 24)
           (.skip)
           (.exit 0)))
         (.block 1
          (.region [⟨(some 25), none, .op (.move (.tmp 5))⟩,
            ⟨(some 26), none, .op (.bsl 1 1 5 (.one (.int .u8 0) .nil) [(0, (.const (.int .u8 0)))])⟩,
            ⟨(some 27), none, .op (.app 1 1 5 (.tmp 25) (.tmp 26))⟩,
            ⟨(some 5), none, .op (.move (.tmp 27))⟩])))))
      (.seq
       (.region [⟨(some 7), none, .op (.move (.const (.slice ⟨0, [], 0⟩ 0 0 0 0 (some 0))))⟩])
       (.seq
        (.region [⟨(some 8), none, .op (.move (.const (.slice ⟨0, [], 0⟩ 0 0 0 0 (some 0))))⟩])
        (.seq
         (.seq
          (.region [⟨(some 9), none, .op (.move (.const (.int .i64 0)))⟩])
          (.block 2
           (.loop
            (.seq
             (.seq
              (.region [⟨(some 28), none, .op (.move (.tmp 9))⟩,
                ⟨(some 29), none, .op (.bin .lss (.tmp 28) (.const (.int .i64 64)))⟩])
              (.cond (.tmp 29)
               (.skip)
               (.exit 2)))
             (.seq
              (.block 3
               (.seq
                (.region [⟨(some 32), none, .op (.move (.tmp 7))⟩,
                  ⟨(some 33), none, .op (.move (.tmp 5))⟩,
                  ⟨(some 34), none, .op (.move (.tmp 9))⟩,
                  ⟨(some 35), none, .op (.idxSl 1 (.tmp 33) (.tmp 34))⟩,
                  ⟨(some 36), none, .op (.load none (.tmp 35))⟩,
                  ⟨(some 37), none, .op (.bin .xor (.tmp 36) (.const (.int .u8 54)))⟩,
                  ⟨(some 38), none, .op (.bsl 1 1 5 (.one (.int .u8 0) .nil) [(0, (.tmp 37))])⟩,
                  ⟨(some 39), none, .op (.app 1 1 5 (.tmp 32) (.tmp 38))⟩,
                  ⟨(some 7), none, .op (.move (.tmp 39))⟩])
                (.region [⟨(some 40), none, .op (.move (.tmp 8))⟩,
                  ⟨(some 41), none, .op (.move (.tmp 5))⟩,
                  ⟨(some 42), none, .op (.move (.tmp 9))⟩,
                  ⟨(some 43), none, .op (.idxSl 1 (.tmp 41) (.tmp 42))⟩,
                  ⟨(some 44), none, .op (.load none (.tmp 43))⟩,
                  ⟨(some 45), none, .op (.bin .xor (.tmp 44) (.const (.int .u8 92)))⟩,
                  ⟨(some 46), none, .op (.bsl 1 1 5 (.one (.int .u8 0) .nil) [(0, (.tmp 45))])⟩,
                  ⟨(some 47), none, .op (.app 1 1 5 (.tmp 40) (.tmp 46))⟩,
                  ⟨(some 8), none, .op (.move (.tmp 47))⟩])))
              (.region [⟨(some 30), none, .op (.move (.tmp 9))⟩,
                ⟨(some 31), none, .op (.bin .add (.tmp 30) (.const (.int .i64 1)))⟩,
                ⟨(some 9), none, .op (.move (.tmp 31))⟩]))))))
         (.seq
          (.region [⟨(some 48), none, .op (.move (.tmp 7))⟩,
            ⟨(some 49), none, .op (.move (.tmp 1))⟩,
            ⟨(some 50), none, .op (.app 1 1 5 (.tmp 48) (.tmp 49))⟩,
            ⟨(some 7), none, .op (.move (.tmp 50))⟩])
          (.seq
           (.region [⟨(some 51), none, .op (.move (.tmp 7))⟩,
             ⟨(some 52), none, .call 14 [(.tmp 51)]⟩,
             ⟨(some 10), none, .op (.alloc 24 (.rows 32 1 (fun _ => (.one (.int .u8 0) .nil)) .nil))⟩,
             ⟨none, none, .op (.store 32 (.tmp 10) (.tmp 52))⟩])
           (.seq
            (.region [⟨(some 53), none, .op (.move (.tmp 8))⟩,
              ⟨(some 54), none, .op (.slArr 1 32 (.tmp 10) none none)⟩,
              ⟨(some 55), none, .op (.app 1 1 5 (.tmp 53) (.tmp 54))⟩,
              ⟨(some 8), none, .op (.move (.tmp 55))⟩])
            (.seq
             (.region [⟨(some 56), none, .op (.move (.tmp 8))⟩,
               ⟨(some 57), none, .call 14 [(.tmp 56)]⟩,
               ⟨none, none, .op (.store 32 (.tmp 4) (.tmp 57))⟩])
             (.ret)))))))))))
def r16 : List LRes := [.cell 4 (some 32)]
theorem body16 : Tryd.f16.body.bind (compileC Tryd.prog) = some c16 := by kernel_rfl
theorem res16 : compileRes Tryd.prog Tryd.f16.results.toList = some r16 := by kernel_rfl
theorem has16 : hasBody Tryd.prog 16 = true := by kernel_rfl
theorem enter16 {args : LVals} {h : LHeap} {R : LEnd → LHeap → Prop} (hk : 58 - lvsLen args = 56) (hw : initK args 56 fun t => lwp Tryd.prog h.length c16 (bodyQ r16 R) t h) : LCalls Tryd.prog 16 args h R := LCalls.enter Tryd.func16 body16 has16 res16 _ (by rw [Tryd.ntmps16]; exact hk) hw
/-- palatine/sha.New -/
def c17 : LCode :=
  .seq
   (.region [⟨(some 0), none, .op (.move (.const .nilp))⟩])
   (.seq
    (.region [⟨(some 1), none, .op (.load (some 8) (.const (.gl 0)))⟩,
      ⟨(some 2), none, .op (.bst (.rows 8 1 (fun _ => (.one (.int .u32 0) .nil)) (.rows 64 1 (fun _ => (.one (.int .u8 0) .nil)) (.one (.int .i64 0) .nil))) [(0, 8, (.tmp 1))])⟩,
      ⟨(some 3), none, .op (.box 78 73 (.tmp 2))⟩,
      ⟨(some 0), none, .op (.move (.tmp 3))⟩])
    (.ret))
def r17 : List LRes := [.tmp 0]
theorem body17 : Tryd.f17.body.bind (compileC Tryd.prog) = some c17 := by kernel_rfl
theorem res17 : compileRes Tryd.prog Tryd.f17.results.toList = some r17 := by kernel_rfl
theorem has17 : hasBody Tryd.prog 17 = true := by kernel_rfl
theorem enter17 {args : LVals} {h : LHeap} {R : LEnd → LHeap → Prop} (hk : 4 - lvsLen args = 4) (hw : initK args 4 fun t => lwp Tryd.prog h.length c17 (bodyQ r17 R) t h) : LCalls Tryd.prog 17 args h R := LCalls.enter Tryd.func17 body17 has17 res17 _ (by rw [Tryd.ntmps17]; exact hk) hw
/-- (*palatine/sha.Hash).Write -/
def b18 : LBodyR :=
  (.seq
   (
    .region [⟨(some 2), none, .op (.box 32 1 (.tmp 0))⟩])
   (.seq
    (
     .region [⟨(some 5), none, .op (.load none (.tmp 2))⟩,
       ⟨(some 6), none, .op (.move (.tmp 1))⟩,
       ⟨(some 7), none, .call 39 [(.tmp 5), (.tmp 6)]⟩])
    (.range (.tmp 7) [8]
     (
      .region [⟨(some 4), none, .op (.move (.tmp 8))⟩])
     (
      .block 1
       (.region [⟨(some 9), none, .op (.load none (.tmp 2))⟩,
         ⟨(some 10), none, .op (.move (.tmp 4))⟩,
         ⟨(some 11), none, .call 40 [(.tmp 9), (.tmp 10)]⟩]))
     (.code
      (
       .skip)))))
def r18 : List LRes := []
theorem body18 : Tryd.f18.body.bind (compileBR2 Tryd.prog) = some b18 := by kernel_rfl
theorem res18 : compileRes Tryd.prog Tryd.f18.results.toList = some r18 := by kernel_rfl
theorem has18 : hasBody Tryd.prog 18 = true := by kernel_rfl
theorem enter18 {args : LVals} {h : LHeap} {R : LEnd → LHeap → Prop} (hk : 12 - lvsLen args = 10) (hw : initK args 10 fun t => bwpR Tryd.prog h.length [] b18 (endQR r18 R) t h) : LCalls Tryd.prog 18 args h R := LCalls.enterRg2 Tryd.func18 body18 has18 res18 _ (by rw [Tryd.ntmps18]; exact hk) hw
/-- (*palatine/sha.Hash).Sum -/
def c19 : LCode :=
  .seq
   (.region [⟨(some 2), none, .op (.alloc 24 (.rows 32 1 (fun _ => (.one (.int .u8 0) .nil)) .nil))⟩])
   (.seq
    (.region [⟨(some 8), none, .op (.move (.tmp 0))⟩,
      ⟨(some 9), none, .op (.nilc (.tmp 8))⟩,
      ⟨(some 10), none, .op (.load (some 73) (.tmp 9))⟩,
      ⟨(some 3), none, .op (.alloc 78 (.rows 8 1 (fun _ => (.one (.int .u32 0) .nil)) (.rows 64 1 (fun _ => (.one (.int .u8 0) .nil)) (.one (.int .i64 0) .nil))))⟩,
      ⟨none, none, .op (.store 73 (.tmp 3) (.tmp 10))⟩])
    (.seq
     (.region [⟨(some 11), none, .op (.field 72 (.tmp 3))⟩,
       ⟨(some 12), none, .op (.load none (.tmp 11))⟩,
       ⟨(some 13), none, .op (.toInt .u64 (.tmp 12))⟩,
       ⟨(some 14), none, .op (.bin .mul (.tmp 13) (.const (.int .u64 8)))⟩,
       ⟨(some 4), none, .op (.move (.tmp 14))⟩])
     (.seq
      (.region [⟨(some 15), none, .op (.bsl 1 1 5 (.one (.int .u8 0) .nil) [(0, (.const (.int .u8 128)))])⟩,
        ⟨(some 16), none, .call 18 [(.tmp 3), (.tmp 15)]⟩])
      (.seq
       (.block 0
        (.loop
         (.seq
          (.seq
           (.region [⟨(some 17), none, .op (.field 72 (.tmp 3))⟩,
             ⟨(some 18), none, .op (.load none (.tmp 17))⟩,
             ⟨(some 19), none, .op (.bin .rem (.tmp 18) (.const (.int .i64 64)))⟩,
             ⟨(some 20), none, .op (.bin .neq (.tmp 19) (.const (.int .i64 56)))⟩])
           (.cond (.tmp 20)
            (.skip)
            (.exit 0)))
          (.block 1
           (.region [⟨(some 21), none, .op (.bsl 1 1 5 (.one (.int .u8 0) .nil) [(0, (.const (.int .u8 0)))])⟩,
             ⟨(some 22), none, .call 18 [(.tmp 3), (.tmp 21)]⟩])))))
       (.seq
        (.seq
         (.region [⟨(some 23), none, .op (.move (.const (.int .i64 0)))⟩])
         (.block 2
          (.loop
           (.seq
            (.region [⟨(some 24), none, .op (.bin .lss (.tmp 23) (.const (.int .i64 8)))⟩])
            (.seq
             (.cond (.tmp 24)
              (.skip)
              (.exit 2))
             (.seq
              (.block 3
               (.seq
                (.region [⟨(some 25), none, .op (.move (.tmp 23))⟩,
                  ⟨(some 5), none, .op (.move (.tmp 25))⟩])
                (.region [⟨(some 26), none, .op (.move (.tmp 4))⟩,
                  ⟨(some 27), none, .op (.move (.tmp 5))⟩,
                  ⟨(some 28), none, .op (.bin .mul (.const (.int .i64 8)) (.tmp 27))⟩,
                  ⟨(some 29), none, .op (.bin .sub (.const (.int .i64 56)) (.tmp 28))⟩,
                  ⟨(some 30), none, .op (.bin .shr (.tmp 26) (.tmp 29))⟩,
                  ⟨(some 31), none, .op (.toInt .u8 (.tmp 30))⟩,
                  ⟨(some 32), none, .op (.bsl 1 1 5 (.one (.int .u8 0) .nil) [(0, (.tmp 31))])⟩,
                  ⟨(some 33), none, .call 18 [(.tmp 3), (.tmp 32)]⟩])))
              (.region [⟨(some 34), none, .op (.bin .add (.tmp 23) (.const (.int .i64 1)))⟩,
                ⟨(some 23), none, .op (.move (.tmp 34))⟩])))))))
        (.seq
         (.region [⟨(some 6), none, .op (.alloc 24 (.rows 32 1 (fun _ => (.one (.int .u8 0) .nil)) .nil))⟩])
         (.seq
          (.seq
           (.region [⟨(some 35), none, .op (.move (.const (.int .i64 0)))⟩])
           (.block 4
            (.loop
             (.seq
              (.region [⟨(some 36), none, .op (.bin .lss (.tmp 35) (.const (.int .i64 32)))⟩])
              (.seq
               (.cond (.tmp 36)
                (.skip)
                (.exit 4))
               (.seq
                (.block 5
                 (.seq
                  (.region [⟨(some 37), none, .op (.move (.tmp 35))⟩,
                    ⟨(some 7), none, .op (.move (.tmp 37))⟩])
                  (.region [⟨(some 38), none, .op (.move (.tmp 7))⟩,
                    ⟨(some 39), none, .op (.move (.tmp 7))⟩,
                    ⟨(some 40), none, .op (.bin .quo (.tmp 39) (.const (.int .i64 4)))⟩,
                    ⟨(some 41), none, .op (.field 0 (.tmp 3))⟩,
                    ⟨(some 42), none, .op (.idxArr 1 8 (.tmp 41) (.tmp 40))⟩,
                    ⟨(some 43), none, .op (.load none (.tmp 42))⟩,
                    ⟨(some 44), none, .op (.move (.tmp 7))⟩,
                    ⟨(some 45), none, .op (.bin .rem (.tmp 44) (.const (.int .i64 4)))⟩,
                    ⟨(some 46), none, .op (.bin .mul (.tmp 45) (.const (.int .i64 8)))⟩,
                    ⟨(some 47), none, .op (.bin .sub (.const (.int .i64 24)) (.tmp 46))⟩,
                    ⟨(some 48), none, .op (.bin .shr (.tmp 43) (.tmp 47))⟩,
                    ⟨(some 49), none, .op (.toInt .u8 (.tmp 48))⟩,
                    ⟨(some 50), none, .op (.idxArr 1 32 (.tmp 6) (.tmp 38))⟩,
                    ⟨none, none, .op (.store 1 (.tmp 50) (.tmp 49))⟩])))
                (.region [⟨(some 51), none, .op (.bin .add (.tmp 35) (.const (.int .i64 1)))⟩,
                  ⟨(some 35), none, .op (.move (.tmp 51))⟩])))))))
          (.seq
           (.region [⟨(some 52), none, .op (.load (some 32) (.tmp 6))⟩,
             ⟨none, none, .op (.store 32 (.tmp 2) (.tmp 52))⟩])
           (.ret)))))))))
def r19 : List LRes := [.cell 2 (some 32)]
theorem body19 : Tryd.f19.body.bind (compileC Tryd.prog) = some c19 := by kernel_rfl
theorem res19 : compileRes Tryd.prog Tryd.f19.results.toList = some r19 := by kernel_rfl
theorem has19 : hasBody Tryd.prog 19 = true := by kernel_rfl
theorem enter19 {args : LVals} {h : LHeap} {R : LEnd → LHeap → Prop} (hk : 53 - lvsLen args = 52) (hw : initK args 52 fun t => lwp Tryd.prog h.length c19 (bodyQ r19 R) t h) : LCalls Tryd.prog 19 args h R := LCalls.enter Tryd.func19 body19 has19 res19 _ (by rw [Tryd.ntmps19]; exact hk) hw
/-- palatine/palatinelaw07.begins -/
def c33 : LCode :=
  .seq
   (.region [⟨(some 2), none, .op (.box 24 32 (.tmp 0))⟩,
     ⟨(some 3), none, .op (.box 66 4 (.tmp 1))⟩,
     ⟨(some 4), none, .op (.move (.const (.bool false)))⟩])
   (.seq
    (.region [⟨(some 5), none, .op (.idxArr 1 32 (.tmp 2) (.const (.int .i64 0)))⟩,
      ⟨(some 6), none, .op (.load none (.tmp 5))⟩,
      ⟨(some 7), none, .op (.idxArr 1 4 (.tmp 3) (.const (.int .i64 0)))⟩,
      ⟨(some 8), none, .op (.load none (.tmp 7))⟩,
      ⟨(some 9), none, .op (.bin .eql (.tmp 6) (.tmp 8))⟩,
      ⟨(some 10), none, .op (.move (.tmp 9))⟩,
      ⟨(some 11), some (10, true), .op (.idxArr 1 32 (.tmp 2) (.const (.int .i64 1)))⟩,
      ⟨(some 12), some (10, true), .op (.load none (.tmp 11))⟩,
      ⟨(some 13), some (10, true), .op (.idxArr 1 4 (.tmp 3) (.const (.int .i64 1)))⟩,
      ⟨(some 14), some (10, true), .op (.load none (.tmp 13))⟩,
      ⟨(some 15), some (10, true), .op (.bin .eql (.tmp 12) (.tmp 14))⟩,
      ⟨(some 16), none, .op (.pick (.tmp 10) (.tmp 15) (.const (.bool false)))⟩,
      ⟨(some 17), none, .op (.move (.tmp 16))⟩,
      ⟨(some 18), some (17, true), .op (.idxArr 1 32 (.tmp 2) (.const (.int .i64 2)))⟩,
      ⟨(some 19), some (17, true), .op (.load none (.tmp 18))⟩,
      ⟨(some 20), some (17, true), .op (.idxArr 1 4 (.tmp 3) (.const (.int .i64 2)))⟩,
      ⟨(some 21), some (17, true), .op (.load none (.tmp 20))⟩,
      ⟨(some 22), some (17, true), .op (.bin .eql (.tmp 19) (.tmp 21))⟩,
      ⟨(some 23), none, .op (.pick (.tmp 17) (.tmp 22) (.const (.bool false)))⟩,
      ⟨(some 24), none, .op (.move (.tmp 23))⟩,
      ⟨(some 25), some (24, true), .op (.idxArr 1 32 (.tmp 2) (.const (.int .i64 3)))⟩,
      ⟨(some 26), some (24, true), .op (.load none (.tmp 25))⟩,
      ⟨(some 27), some (24, true), .op (.idxArr 1 4 (.tmp 3) (.const (.int .i64 3)))⟩,
      ⟨(some 28), some (24, true), .op (.load none (.tmp 27))⟩,
      ⟨(some 29), some (24, true), .op (.bin .eql (.tmp 26) (.tmp 28))⟩,
      ⟨(some 30), none, .op (.pick (.tmp 24) (.tmp 29) (.const (.bool false)))⟩,
      ⟨(some 4), none, .op (.move (.tmp 30))⟩])
    (.ret))
def r33 : List LRes := [.tmp 4]
theorem body33 : Tryd.f33.body.bind (compileC Tryd.prog) = some c33 := by kernel_rfl
theorem res33 : compileRes Tryd.prog Tryd.f33.results.toList = some r33 := by kernel_rfl
theorem has33 : hasBody Tryd.prog 33 = true := by kernel_rfl
theorem enter33 {args : LVals} {h : LHeap} {R : LEnd → LHeap → Prop} (hk : 31 - lvsLen args = 29) (hw : initK args 29 fun t => lwp Tryd.prog h.length c33 (bodyQ r33 R) t h) : LCalls Tryd.prog 33 args h R := LCalls.enter Tryd.func33 body33 has33 res33 _ (by rw [Tryd.ntmps33]; exact hk) hw
/-- palatine/palatineref07.Padded -/
def c34 : LCode :=
  .seq
   (.region [⟨(some 2), none, .op (.move (.const (.slice ⟨0, [], 0⟩ 0 0 0 0 (some 0))))⟩])
   (.seq
    (.region [⟨(some 6), none, .op (.bsl 1 0 5 (.one (.int .u8 0) .nil) [])⟩,
      ⟨(some 7), none, .op (.move (.tmp 0))⟩,
      ⟨(some 8), none, .op (.app 1 1 5 (.tmp 6) (.tmp 7))⟩,
      ⟨(some 3), none, .op (.move (.tmp 8))⟩])
    (.seq
     (.region [⟨(some 9), none, .op (.move (.tmp 3))⟩,
       ⟨(some 10), none, .op (.bsl 1 1 5 (.one (.int .u8 0) .nil) [(0, (.const (.int .u8 128)))])⟩,
       ⟨(some 11), none, .op (.app 1 1 5 (.tmp 9) (.tmp 10))⟩,
       ⟨(some 3), none, .op (.move (.tmp 11))⟩])
     (.seq
      (.block 0
       (.loop
        (.seq
         (.seq
          (.region [⟨(some 12), none, .op (.move (.tmp 3))⟩,
            ⟨(some 13), none, .op (.lenSl (.tmp 12))⟩,
            ⟨(some 14), none, .op (.bin .rem (.tmp 13) (.const (.int .i64 64)))⟩,
            ⟨(some 15), none, .op (.bin .neq (.tmp 14) (.const (.int .i64 56)))⟩])
          (.cond (.tmp 15)
           (.skip)
           (.exit 0)))
         (.block 1
          (.region [⟨(some 16), none, .op (.move (.tmp 3))⟩,
            ⟨(some 17), none, .op (.bsl 1 1 5 (.one (.int .u8 0) .nil) [(0, (.const (.int .u8 0)))])⟩,
            ⟨(some 18), none, .op (.app 1 1 5 (.tmp 16) (.tmp 17))⟩,
            ⟨(some 3), none, .op (.move (.tmp 18))⟩])))))
      (.seq
       (.region [⟨(some 19), none, .op (.move (.tmp 0))⟩,
         ⟨(some 20), none, .op (.lenSl (.tmp 19))⟩,
         ⟨(some 21), none, .op (.toInt .u64 (.tmp 20))⟩,
         ⟨(some 22), none, .op (.bin .mul (.tmp 21) (.const (.int .u64 8)))⟩,
         ⟨(some 4), none, .op (.move (.tmp 22))⟩])
       (.seq
        (.seq
         (.region [⟨(some 5), none, .op (.move (.const (.int .i64 7)))⟩])
         (.block 2
          (.loop
           (.seq
            (.seq
             (.region [⟨(some 23), none, .op (.move (.tmp 5))⟩,
               ⟨(some 24), none, .op (.bin .geq (.tmp 23) (.const (.int .i64 0)))⟩])
             (.cond (.tmp 24)
              (.skip)
              (.exit 2)))
            (.seq
             (.block 3
              (.region [⟨(some 27), none, .op (.move (.tmp 3))⟩,
                ⟨(some 28), none, .op (.move (.tmp 4))⟩,
                ⟨(some 29), none, .op (.move (.tmp 5))⟩,
                ⟨(some 30), none, .op (.bin .mul (.const (.int .i64 8)) (.tmp 29))⟩,
                ⟨(some 31), none, .op (.bin .shr (.tmp 28) (.tmp 30))⟩,
                ⟨(some 32), none, .op (.toInt .u8 (.tmp 31))⟩,
                ⟨(some 33), none, .op (.bsl 1 1 5 (.one (.int .u8 0) .nil) [(0, (.tmp 32))])⟩,
                ⟨(some 34), none, .op (.app 1 1 5 (.tmp 27) (.tmp 33))⟩,
                ⟨(some 3), none, .op (.move (.tmp 34))⟩]))
             (.region [⟨(some 25), none, .op (.move (.tmp 5))⟩,
               ⟨(some 26), none, .op (.bin .sub (.tmp 25) (.const (.int .i64 1)))⟩,
               ⟨(some 5), none, .op (.move (.tmp 26))⟩]))))))
        (.seq
         (.region [⟨(some 35), none, .op (.move (.tmp 3))⟩,
           ⟨(some 2), none, .op (.move (.tmp 35))⟩])
         (.ret)))))))
def r34 : List LRes := [.tmp 2]
theorem body34 : Tryd.f34.body.bind (compileC Tryd.prog) = some c34 := by kernel_rfl
theorem res34 : compileRes Tryd.prog Tryd.f34.results.toList = some r34 := by kernel_rfl
theorem has34 : hasBody Tryd.prog 34 = true := by kernel_rfl
theorem enter34 {args : LVals} {h : LHeap} {R : LEnd → LHeap → Prop} (hk : 36 - lvsLen args = 35) (hw : initK args 35 fun t => lwp Tryd.prog h.length c34 (bodyQ r34 R) t h) : LCalls Tryd.prog 34 args h R := LCalls.enter Tryd.func34 body34 has34 res34 _ (by rw [Tryd.ntmps34]; exact hk) hw
/-- palatine/palatineref07.first -/
def c35 : LCode :=
  .seq
   (.region [⟨(some 0), none, .op (.alloc 69 (.rows 8 1 (fun _ => (.one (.int .u32 0) .nil)) .nil))⟩])
   (.seq
    (.region [⟨(some 1), none, .op (.bar 1 8 (.one (.int .u32 0) .nil) [(0, (.const (.int .u32 1779033703))), (1, (.const (.int .u32 3144134277))), (2, (.const (.int .u32 1013904242))), (3, (.const (.int .u32 2773480762))), (4, (.const (.int .u32 1359893119))), (5, (.const (.int .u32 2600822924))), (6, (.const (.int .u32 528734635))), (7, (.const (.int .u32 1541459225)))])⟩,
      ⟨none, none, .op (.store 8 (.tmp 0) (.tmp 1))⟩])
    (.ret))
def r35 : List LRes := [.cell 0 (some 8)]
theorem body35 : Tryd.f35.body.bind (compileC Tryd.prog) = some c35 := by kernel_rfl
theorem res35 : compileRes Tryd.prog Tryd.f35.results.toList = some r35 := by kernel_rfl
theorem has35 : hasBody Tryd.prog 35 = true := by kernel_rfl
theorem enter35 {args : LVals} {h : LHeap} {R : LEnd → LHeap → Prop} (hk : 2 - lvsLen args = 2) (hw : initK args 2 fun t => lwp Tryd.prog h.length c35 (bodyQ r35 R) t h) : LCalls Tryd.prog 35 args h R := LCalls.enter Tryd.func35 body35 has35 res35 _ (by rw [Tryd.ntmps35]; exact hk) hw
/-- palatine/palatineref07.constants -/
def c36 : LCode :=
  .seq
   (.region [⟨(some 0), none, .op (.alloc 71 (.rows 64 1 (fun _ => (.one (.int .u32 0) .nil)) .nil))⟩])
   (.seq
    (.region [⟨(some 1), none, .op (.bar 1 64 (.one (.int .u32 0) .nil) [(0, (.const (.int .u32 1116352408))), (1, (.const (.int .u32 1899447441))), (2, (.const (.int .u32 3049323471))), (3, (.const (.int .u32 3921009573))), (4, (.const (.int .u32 961987163))), (5, (.const (.int .u32 1508970993))), (6, (.const (.int .u32 2453635748))), (7, (.const (.int .u32 2870763221))), (8, (.const (.int .u32 3624381080))), (9, (.const (.int .u32 310598401))), (10, (.const (.int .u32 607225278))), (11, (.const (.int .u32 1426881987))), (12, (.const (.int .u32 1925078388))), (13, (.const (.int .u32 2162078206))), (14, (.const (.int .u32 2614888103))), (15, (.const (.int .u32 3248222580))), (16, (.const (.int .u32 3835390401))), (17, (.const (.int .u32 4022224774))), (18, (.const (.int .u32 264347078))), (19, (.const (.int .u32 604807628))), (20, (.const (.int .u32 770255983))), (21, (.const (.int .u32 1249150122))), (22, (.const (.int .u32 1555081692))), (23, (.const (.int .u32 1996064986))), (24, (.const (.int .u32 2554220882))), (25, (.const (.int .u32 2821834349))), (26, (.const (.int .u32 2952996808))), (27, (.const (.int .u32 3210313671))), (28, (.const (.int .u32 3336571891))), (29, (.const (.int .u32 3584528711))), (30, (.const (.int .u32 113926993))), (31, (.const (.int .u32 338241895))), (32, (.const (.int .u32 666307205))), (33, (.const (.int .u32 773529912))), (34, (.const (.int .u32 1294757372))), (35, (.const (.int .u32 1396182291))), (36, (.const (.int .u32 1695183700))), (37, (.const (.int .u32 1986661051))), (38, (.const (.int .u32 2177026350))), (39, (.const (.int .u32 2456956037))), (40, (.const (.int .u32 2730485921))), (41, (.const (.int .u32 2820302411))), (42, (.const (.int .u32 3259730800))), (43, (.const (.int .u32 3345764771))), (44, (.const (.int .u32 3516065817))), (45, (.const (.int .u32 3600352804))), (46, (.const (.int .u32 4094571909))), (47, (.const (.int .u32 275423344))), (48, (.const (.int .u32 430227734))), (49, (.const (.int .u32 506948616))), (50, (.const (.int .u32 659060556))), (51, (.const (.int .u32 883997877))), (52, (.const (.int .u32 958139571))), (53, (.const (.int .u32 1322822218))), (54, (.const (.int .u32 1537002063))), (55, (.const (.int .u32 1747873779))), (56, (.const (.int .u32 1955562222))), (57, (.const (.int .u32 2024104815))), (58, (.const (.int .u32 2227730452))), (59, (.const (.int .u32 2361852424))), (60, (.const (.int .u32 2428436474))), (61, (.const (.int .u32 2756734187))), (62, (.const (.int .u32 3204031479))), (63, (.const (.int .u32 3329325298)))])⟩,
      ⟨none, none, .op (.store 64 (.tmp 0) (.tmp 1))⟩])
    (.ret))
def r36 : List LRes := [.cell 0 (some 64)]
theorem body36 : Tryd.f36.body.bind (compileC Tryd.prog) = some c36 := by kernel_rfl
theorem res36 : compileRes Tryd.prog Tryd.f36.results.toList = some r36 := by kernel_rfl
theorem has36 : hasBody Tryd.prog 36 = true := by kernel_rfl
theorem enter36 {args : LVals} {h : LHeap} {R : LEnd → LHeap → Prop} (hk : 2 - lvsLen args = 2) (hw : initK args 2 fun t => lwp Tryd.prog h.length c36 (bodyQ r36 R) t h) : LCalls Tryd.prog 36 args h R := LCalls.enter Tryd.func36 body36 has36 res36 _ (by rw [Tryd.ntmps36]; exact hk) hw
/-- palatine/palatineref07.R -/
def c37 : LCode :=
  .seq
   (.region [⟨(some 4), none, .op (.move (.const (.int .u32 0)))⟩])
   (.seq
    (.draws [(0, [], ⟨(some 5), none, .op (.move (.tmp 0))⟩),
      (1, [0], ⟨(some 6), none, .op (.move (.tmp 1))⟩),
      (2, [], ⟨(some 7), none, .op (.bin .shr (.tmp 5) (.tmp 6))⟩),
      (3, [0, 1, 2], ⟨(some 8), none, .op (.move (.tmp 0))⟩),
      (4, [0, 1, 2, 3], ⟨(some 9), none, .op (.move (.tmp 1))⟩),
      (5, [0, 1, 2, 3], ⟨(some 10), none, .op (.bin .sub (.const (.int .i64 32)) (.tmp 9))⟩),
      (6, [0, 1, 2], ⟨(some 11), none, .op (.bin .shl (.tmp 8) (.tmp 10))⟩),
      (7, [], ⟨(some 12), none, .op (.bin .or (.tmp 7) (.tmp 11))⟩),
      (8, [], ⟨(some 4), none, .op (.move (.tmp 12))⟩)])
    (.ret))
def r37 : List LRes := [.tmp 4]
theorem body37 : Tryd.f37.body.bind (compileC Tryd.prog) = some c37 := by kernel_rfl
theorem res37 : compileRes Tryd.prog Tryd.f37.results.toList = some r37 := by kernel_rfl
theorem has37 : hasBody Tryd.prog 37 = true := by kernel_rfl
theorem enter37 {args : LVals} {h : LHeap} {R : LEnd → LHeap → Prop} (hk : 13 - lvsLen args = 11) (hw : initK args 11 fun t => lwp Tryd.prog h.length c37 (bodyQ r37 R) t h) : LCalls Tryd.prog 37 args h R := LCalls.enter Tryd.func37 body37 has37 res37 _ (by rw [Tryd.ntmps37]; exact hk) hw
/-- palatine/sha.keyed -/
def c38 : LCode :=
  .seq
   (.region [⟨(some 4), none, .op (.move (.const .nilp))⟩])
   (.seq
    (.seq
     (.region [⟨(some 9), none, .op (.move (.tmp 0))⟩,
       ⟨(some 10), none, .op (.lenSl (.tmp 9))⟩,
       ⟨(some 11), none, .op (.bin .gtr (.tmp 10) (.const (.int .i64 64)))⟩])
     (.cond (.tmp 11)
      (.seq
       (.region [⟨(some 12), none, .op (.move (.tmp 0))⟩,
         ⟨(some 13), none, .call 13 [(.tmp 12)]⟩,
         ⟨(some 5), none, .op (.alloc 24 (.rows 32 1 (fun _ => (.one (.int .u8 0) .nil)) .nil))⟩,
         ⟨none, none, .op (.store 32 (.tmp 5) (.tmp 13))⟩])
       (.region [⟨(some 14), none, .op (.slArr 1 32 (.tmp 5) none none)⟩,
         ⟨(some 0), none, .op (.move (.tmp 14))⟩]))
      (.skip)))
    (.seq
     (.region [⟨(some 15), none, .call 17 []⟩,
       ⟨(some 6), none, .op (.move (.tmp 15))⟩])
     (.seq
      (.seq
       (.region [⟨(some 16), none, .op (.move (.const (.int .i64 0)))⟩])
       (.block 0
        (.loop
         (.seq
          (.region [⟨(some 17), none, .op (.bin .lss (.tmp 16) (.const (.int .i64 64)))⟩])
          (.seq
           (.cond (.tmp 17)
            (.skip)
            (.exit 0))
           (.seq
            (.block 1
             (.seq
              (.region [⟨(some 18), none, .op (.move (.tmp 16))⟩,
                ⟨(some 7), none, .op (.move (.tmp 18))⟩])
              (.seq
               (.region [⟨(some 8), none, .op (.move (.const (.int .u8 0)))⟩])
               (.seq
                (.seq
                 (.region [⟨(some 19), none, .op (.move (.tmp 7))⟩,
                   ⟨(some 20), none, .op (.move (.tmp 0))⟩,
                   ⟨(some 21), none, .op (.lenSl (.tmp 20))⟩,
                   ⟨(some 22), none, .op (.bin .lss (.tmp 19) (.tmp 21))⟩])
                 (.cond (.tmp 22)
                  (.region [⟨(some 23), none, .op (.move (.tmp 0))⟩,
                    ⟨(some 24), none, .op (.move (.tmp 7))⟩,
                    ⟨(some 25), none, .op (.idxSl 1 (.tmp 23) (.tmp 24))⟩,
                    ⟨(some 26), none, .op (.load none (.tmp 25))⟩,
                    ⟨(some 8), none, .op (.move (.tmp 26))⟩])
                  (.skip)))
                (.region [⟨(some 27), none, .op (.move (.tmp 6))⟩,
                  ⟨(some 28), none, .op (.move (.tmp 8))⟩,
                  ⟨(some 29), none, .op (.move (.tmp 1))⟩,
                  ⟨(some 30), none, .op (.bin .xor (.tmp 28) (.tmp 29))⟩,
                  ⟨(some 31), none, .op (.bsl 1 1 5 (.one (.int .u8 0) .nil) [(0, (.tmp 30))])⟩,
                  ⟨(some 32), none, .call 18 [(.tmp 27), (.tmp 31)]⟩])))))
            (.region [⟨(some 33), none, .op (.bin .add (.tmp 16) (.const (.int .i64 1)))⟩,
              ⟨(some 16), none, .op (.move (.tmp 33))⟩])))))))
      (.seq
       (.region [⟨(some 34), none, .op (.move (.tmp 6))⟩,
         ⟨(some 4), none, .op (.move (.tmp 34))⟩])
       (.ret)))))
def r38 : List LRes := [.tmp 4]
theorem body38 : Tryd.f38.body.bind (compileC Tryd.prog) = some c38 := by kernel_rfl
theorem res38 : compileRes Tryd.prog Tryd.f38.results.toList = some r38 := by kernel_rfl
theorem has38 : hasBody Tryd.prog 38 = true := by kernel_rfl
theorem enter38 {args : LVals} {h : LHeap} {R : LEnd → LHeap → Prop} (hk : 35 - lvsLen args = 33) (hw : initK args 33 fun t => lwp Tryd.prog h.length c38 (bodyQ r38 R) t h) : LCalls Tryd.prog 38 args h R := LCalls.enter Tryd.func38 body38 has38 res38 _ (by rw [Tryd.ntmps38]; exact hk) hw
/-- (*palatine/sha.Hash).blocks -/
def c39 : LCode :=
  .seq
   (.region [⟨(some 2), none, .op (.box 32 1 (.tmp 0))⟩,
     ⟨(some 3), none, .op (.box 22 1 (.tmp 1))⟩,
     ⟨(some 4), none, .op (.move (.const .nilf))⟩])
   (.seq
    (.region [⟨(some 5), none, .op (.mkFunc 51 [(.tmp 3), (.tmp 2)])⟩,
      ⟨(some 4), none, .op (.move (.tmp 5))⟩])
    (.ret))
def r39 : List LRes := [.tmp 4]
theorem body39 : Tryd.f39.body.bind (compileC Tryd.prog) = some c39 := by kernel_rfl
theorem res39 : compileRes Tryd.prog Tryd.f39.results.toList = some r39 := by kernel_rfl
theorem has39 : hasBody Tryd.prog 39 = true := by kernel_rfl
theorem enter39 {args : LVals} {h : LHeap} {R : LEnd → LHeap → Prop} (hk : 6 - lvsLen args = 4) (hw : initK args 4 fun t => lwp Tryd.prog h.length c39 (bodyQ r39 R) t h) : LCalls Tryd.prog 39 args h R := LCalls.enter Tryd.func39 body39 has39 res39 _ (by rw [Tryd.ntmps39]; exact hk) hw
/-- (*palatine/sha.Hash).blocks$1 -/
def c51 : LCode :=
  .block 0
   (.loop
    (.seq
     (.seq
      (.region [⟨(some 6), none, .op (.load none (.tmp 1))⟩,
        ⟨(some 7), none, .op (.lenSl (.tmp 6))⟩,
        ⟨(some 8), none, .op (.bin .gtr (.tmp 7) (.const (.int .i64 0)))⟩])
      (.cond (.tmp 8)
       (.skip)
       (.exit 0)))
     (.block 1
      (.seq
       (.region [⟨(some 9), none, .op (.load none (.tmp 2))⟩,
         ⟨(some 10), none, .op (.nilc (.tmp 9))⟩,
         ⟨(some 11), none, .op (.field 72 (.tmp 10))⟩,
         ⟨(some 12), none, .op (.load none (.tmp 11))⟩,
         ⟨(some 13), none, .op (.bin .rem (.tmp 12) (.const (.int .i64 64)))⟩,
         ⟨(some 4), none, .op (.move (.tmp 13))⟩])
       (.seq
        (.draws [(0, [], ⟨(some 14), none, .op (.load none (.tmp 2))⟩),
          (1, [], ⟨(some 15), none, .op (.nilc (.tmp 14))⟩),
          (2, [], ⟨(some 16), none, .op (.field 8 (.tmp 15))⟩),
          (3, [0, 1, 2], ⟨(some 17), none, .op (.move (.tmp 4))⟩),
          (4, [], ⟨(some 18), none, .op (.slArr3 1 64 (.tmp 16) (some (.tmp 17)) (.const (.int .i64 64)) (.const (.int .i64 64)))⟩),
          (5, [0, 1, 2, 3, 4], ⟨(some 19), none, .op (.load none (.tmp 1))⟩),
          (6, [], ⟨(some 20), none, .op (.copy 1 (.tmp 18) (.tmp 19))⟩),
          (7, [], ⟨(some 5), none, .op (.move (.tmp 20))⟩)])
        (.seq
         (.region [⟨(some 21), none, .op (.load none (.tmp 1))⟩,
           ⟨(some 22), none, .op (.move (.tmp 5))⟩,
           ⟨(some 23), none, .op (.slSl 1 (.tmp 21) (some (.tmp 22)) none)⟩,
           ⟨none, none, .op (.store 1 (.tmp 1) (.tmp 23))⟩])
         (.seq
          (.region [⟨(some 24), none, .op (.load none (.tmp 2))⟩,
            ⟨(some 25), none, .op (.nilc (.tmp 24))⟩,
            ⟨(some 26), none, .op (.field 72 (.tmp 25))⟩,
            ⟨(some 27), none, .op (.load none (.tmp 26))⟩,
            ⟨(some 28), none, .op (.move (.tmp 5))⟩,
            ⟨(some 29), none, .op (.bin .add (.tmp 27) (.tmp 28))⟩,
            ⟨(some 30), none, .op (.nilc (.tmp 24))⟩,
            ⟨(some 31), none, .op (.field 72 (.tmp 30))⟩,
            ⟨none, none, .op (.store 1 (.tmp 31) (.tmp 29))⟩])
          (.seq
           (.region [⟨(some 32), none, .op (.load none (.tmp 2))⟩,
             ⟨(some 33), none, .op (.nilc (.tmp 32))⟩,
             ⟨(some 34), none, .op (.field 72 (.tmp 33))⟩,
             ⟨(some 35), none, .op (.load none (.tmp 34))⟩,
             ⟨(some 36), none, .op (.bin .rem (.tmp 35) (.const (.int .i64 64)))⟩,
             ⟨(some 37), none, .op (.bin .eql (.tmp 36) (.const (.int .i64 0)))⟩,
             ⟨(some 38), none, .op (.move (.tmp 37))⟩,
             ⟨(some 39), some (38, true), .op (.move (.tmp 0))⟩,
             ⟨(some 40), some (38, true), .op (.load none (.tmp 2))⟩,
             ⟨(some 41), some (38, true), .op (.nilc (.tmp 40))⟩,
             ⟨(some 42), some (38, true), .op (.field 8 (.tmp 41))⟩,
             ⟨(some 43), some (38, true), .op (.slArr 1 64 (.tmp 42) none none)⟩,
             ⟨(some 44), some (38, true), .callv (.tmp 39) [(.tmp 43)]⟩,
             ⟨(some 45), some (38, true), .op (.un .not (.tmp 44))⟩,
             ⟨(some 46), none, .op (.pick (.tmp 38) (.tmp 45) (.const (.bool false)))⟩])
           (.cond (.tmp 46)
            (.ret)
            (.skip))))))))))
def r51 : List LRes := []
theorem body51 : Tryd.f51.body.bind (compileC Tryd.prog) = some c51 := by kernel_rfl
theorem res51 : compileRes Tryd.prog Tryd.f51.results.toList = some r51 := by kernel_rfl
theorem has51 : hasBody Tryd.prog 51 = true := by kernel_rfl
theorem enter51 {args : LVals} {h : LHeap} {R : LEnd → LHeap → Prop} (hk : 47 - lvsLen args = 44) (hw : initK args 44 fun t => lwp Tryd.prog h.length c51 (bodyQ r51 R) t h) : LCalls Tryd.prog 51 args h R := LCalls.enter Tryd.func51 body51 has51 res51 _ (by rw [Tryd.ntmps51]; exact hk) hw
theorem denter51 {args : LVals} {u : LMode} {h : LHeap} {K : LMode → LHeap → Prop} (hk : 47 - lvsLen args = 44) (hw : initK args 44 fun t => lwp Tryd.prog h.length c51 (dQ K u) t h) : LCallsD Tryd.prog 51 args u h K := LCallsD.enter Tryd.func51 body51 has51 res51 _ (by rw [Tryd.ntmps51]; exact hk) hw
/-- (*palatine/sha.Hash).block -/
def c40 : LCode :=
  .seq
   (.region [⟨(some 4), none, .op (.alloc 71 (.rows 64 1 (fun _ => (.one (.int .u32 0) .nil)) .nil))⟩])
   (.seq
    (.seq
     (.region [⟨(some 15), none, .op (.move (.const (.int .i64 0)))⟩])
     (.block 0
      (.loop
       (.seq
        (.region [⟨(some 16), none, .op (.bin .lss (.tmp 15) (.const (.int .i64 64)))⟩])
        (.seq
         (.cond (.tmp 16)
          (.skip)
          (.exit 0))
         (.seq
          (.block 1
           (.seq
            (.region [⟨(some 17), none, .op (.move (.tmp 15))⟩,
              ⟨(some 5), none, .op (.move (.tmp 17))⟩])
            (.seq
             (.seq
              (.region [⟨(some 18), none, .op (.move (.tmp 5))⟩,
                ⟨(some 19), none, .op (.bin .lss (.tmp 18) (.const (.int .i64 16)))⟩])
              (.cond (.tmp 19)
               (.seq
                (.region [⟨(some 20), none, .op (.move (.tmp 5))⟩,
                  ⟨(some 21), none, .op (.move (.tmp 1))⟩,
                  ⟨(some 22), none, .op (.move (.tmp 5))⟩,
                  ⟨(some 23), none, .op (.bin .mul (.const (.int .i64 4)) (.tmp 22))⟩,
                  ⟨(some 24), none, .op (.slSl 1 (.tmp 21) (some (.tmp 23)) none)⟩,
                  ⟨(some 25), none, .call 52 [(.tmp 24)]⟩,
                  ⟨(some 26), none, .op (.idxArr 1 64 (.tmp 4) (.tmp 20))⟩,
                  ⟨none, none, .op (.store 1 (.tmp 26) (.tmp 25))⟩])
                (.exit 1))
               (.skip)))
             (.seq
              (.draws [(0, [], ⟨(some 27), none, .op (.move (.tmp 5))⟩),
                (1, [], ⟨(some 28), none, .op (.bin .sub (.tmp 27) (.const (.int .i64 15)))⟩),
                (2, [], ⟨(some 29), none, .op (.idxArr 1 64 (.tmp 4) (.tmp 28))⟩),
                (3, [], ⟨(some 30), none, .op (.load none (.tmp 29))⟩),
                (4, [0, 1, 2, 3], ⟨(some 31), none, .op (.move (.tmp 5))⟩),
                (5, [0, 1, 2, 3], ⟨(some 32), none, .op (.bin .sub (.tmp 31) (.const (.int .i64 2)))⟩),
                (6, [0, 1, 2, 3], ⟨(some 33), none, .op (.idxArr 1 64 (.tmp 4) (.tmp 32))⟩),
                (7, [0, 1, 2, 3], ⟨(some 34), none, .op (.load none (.tmp 33))⟩),
                (8, [4, 5, 6, 7], ⟨(some 6), none, .op (.move (.tmp 30))⟩),
                (9, [], ⟨(some 7), none, .op (.move (.tmp 34))⟩)])
              (.draws [(0, [], ⟨(some 35), none, .op (.move (.tmp 5))⟩),
                (1, [0], ⟨(some 36), none, .op (.move (.tmp 5))⟩),
                (2, [0], ⟨(some 37), none, .op (.bin .sub (.tmp 36) (.const (.int .i64 16)))⟩),
                (3, [0], ⟨(some 38), none, .op (.idxArr 1 64 (.tmp 4) (.tmp 37))⟩),
                (4, [0], ⟨(some 39), none, .op (.load none (.tmp 38))⟩),
                (5, [0, 1, 2, 3, 4], ⟨(some 40), none, .op (.move (.tmp 5))⟩),
                (6, [0, 1, 2, 3, 4], ⟨(some 41), none, .op (.bin .sub (.tmp 40) (.const (.int .i64 7)))⟩),
                (7, [0, 1, 2, 3, 4], ⟨(some 42), none, .op (.idxArr 1 64 (.tmp 4) (.tmp 41))⟩),
                (8, [0, 1, 2, 3, 4], ⟨(some 43), none, .op (.load none (.tmp 42))⟩),
                (9, [0], ⟨(some 44), none, .op (.bin .add (.tmp 39) (.tmp 43))⟩),
                (10, [0, 1, 2, 3, 4, 5, 6, 7, 8, 9], ⟨(some 45), none, .op (.move (.tmp 6))⟩),
                (11, [0, 1, 2, 3, 4, 5, 6, 7, 8, 9], ⟨(some 46), none, .call 53 [(.tmp 45), (.const (.int .i64 7))]⟩),
                (12, [0, 1, 2, 3, 4, 5, 6, 7, 8, 9, 10, 11], ⟨(some 47), none, .op (.move (.tmp 6))⟩),
                (13, [0, 1, 2, 3, 4, 5, 6, 7, 8, 9], ⟨(some 48), none, .call 53 [(.tmp 47), (.const (.int .i64 18))]⟩),
                (14, [0, 1, 2, 3, 4, 5, 6, 7, 8, 9], ⟨(some 49), none, .op (.bin .xor (.tmp 46) (.tmp 48))⟩),
                (15, [0, 1, 2, 3, 4, 5, 6, 7, 8, 9, 10, 11, 12, 13, 14], ⟨(some 50), none, .op (.move (.tmp 6))⟩),
                (16, [0, 1, 2, 3, 4, 5, 6, 7, 8, 9, 10, 11, 12, 13, 14], ⟨(some 51), none, .op (.shc false 8 .u32 (.tmp 50))⟩),
                (17, [0, 1, 2, 3, 4, 5, 6, 7, 8, 9], ⟨(some 52), none, .op (.bin .xor (.tmp 49) (.tmp 51))⟩),
                (18, [0], ⟨(some 53), none, .op (.bin .add (.tmp 44) (.tmp 52))⟩),
                (19, [0, 1, 2, 3, 4, 5, 6, 7, 8, 9, 10, 11, 12, 13, 14, 15, 16, 17, 18], ⟨(some 54), none, .op (.move (.tmp 7))⟩),
                (20, [0, 1, 2, 3, 4, 5, 6, 7, 8, 9, 14, 15, 16, 17, 18], ⟨(some 55), none, .call 53 [(.tmp 54), (.const (.int .i64 17))]⟩),
                (21, [0, 1, 2, 3, 4, 5, 6, 7, 8, 9, 10, 11, 12, 13, 14, 15, 16, 17, 18, 19, 20], ⟨(some 56), none, .op (.move (.tmp 7))⟩),
                (22, [0, 1, 2, 3, 4, 5, 6, 7, 8, 9, 14, 15, 16, 17, 18], ⟨(some 57), none, .call 53 [(.tmp 56), (.const (.int .i64 19))]⟩),
                (23, [0, 1, 2, 3, 4, 5, 6, 7, 8, 9, 14, 15, 16, 17, 18], ⟨(some 58), none, .op (.bin .xor (.tmp 55) (.tmp 57))⟩),
                (24, [0, 1, 2, 3, 4, 5, 6, 7, 8, 9, 10, 11, 12, 13, 14, 15, 16, 17, 18, 19, 20, 21, 22, 23], ⟨(some 59), none, .op (.move (.tmp 7))⟩),
                (25, [0, 1, 2, 3, 4, 5, 6, 7, 8, 9, 10, 11, 12, 13, 14, 15, 16, 17, 18, 19, 20, 21, 22, 23], ⟨(some 60), none, .op (.shc false 1024 .u32 (.tmp 59))⟩),
                (26, [0, 1, 2, 3, 4, 5, 6, 7, 8, 9, 14, 15, 16, 17, 18], ⟨(some 61), none, .op (.bin .xor (.tmp 58) (.tmp 60))⟩),
                (27, [0], ⟨(some 62), none, .op (.bin .add (.tmp 53) (.tmp 61))⟩),
                (28, [], ⟨(some 63), none, .op (.idxArr 1 64 (.tmp 4) (.tmp 35))⟩),
                (29, [], ⟨none, none, .op (.store 1 (.tmp 63) (.tmp 62))⟩)])))))
          (.region [⟨(some 64), none, .op (.bin .add (.tmp 15) (.const (.int .i64 1)))⟩,
            ⟨(some 15), none, .op (.move (.tmp 64))⟩])))))))
    (.seq
     (.region [⟨(some 65), none, .op (.move (.tmp 0))⟩,
       ⟨(some 66), none, .op (.nilc (.tmp 65))⟩,
       ⟨(some 67), none, .op (.field 0 (.tmp 66))⟩,
       ⟨(some 68), none, .op (.load (some 8) (.tmp 67))⟩,
       ⟨(some 8), none, .op (.alloc 69 (.rows 8 1 (fun _ => (.one (.int .u32 0) .nil)) .nil))⟩,
       ⟨none, none, .op (.store 8 (.tmp 8) (.tmp 68))⟩])
     (.seq
      (.seq
       (.region [⟨(some 69), none, .op (.move (.const (.int .i64 0)))⟩])
       (.block 2
        (.loop
         (.seq
          (.region [⟨(some 70), none, .op (.bin .lss (.tmp 69) (.const (.int .i64 64)))⟩])
          (.seq
           (.cond (.tmp 70)
            (.skip)
            (.exit 2))
           (.seq
            (.block 3
             (.seq
              (.region [⟨(some 71), none, .op (.move (.tmp 69))⟩,
                ⟨(some 9), none, .op (.move (.tmp 71))⟩])
              (.seq
               (.draws [(0, [], ⟨(some 72), none, .op (.idxArr 1 8 (.tmp 8) (.const (.int .i64 0)))⟩),
                 (1, [], ⟨(some 73), none, .op (.load none (.tmp 72))⟩),
                 (2, [0, 1], ⟨(some 74), none, .op (.idxArr 1 8 (.tmp 8) (.const (.int .i64 4)))⟩),
                 (3, [0, 1], ⟨(some 75), none, .op (.load none (.tmp 74))⟩),
                 (4, [2, 3], ⟨(some 10), none, .op (.move (.tmp 73))⟩),
                 (5, [], ⟨(some 11), none, .op (.move (.tmp 75))⟩)])
               (.seq
                (.draws [(0, [], ⟨(some 76), none, .op (.idxArr 1 8 (.tmp 8) (.const (.int .i64 7)))⟩),
                  (1, [], ⟨(some 77), none, .op (.load none (.tmp 76))⟩),
                  (2, [0, 1], ⟨(some 78), none, .op (.move (.tmp 11))⟩),
                  (3, [0, 1], ⟨(some 79), none, .call 53 [(.tmp 78), (.const (.int .i64 6))]⟩),
                  (4, [0, 1, 2, 3], ⟨(some 80), none, .op (.move (.tmp 11))⟩),
                  (5, [0, 1], ⟨(some 81), none, .call 53 [(.tmp 80), (.const (.int .i64 11))]⟩),
                  (6, [0, 1], ⟨(some 82), none, .op (.bin .xor (.tmp 79) (.tmp 81))⟩),
                  (7, [0, 1, 2, 3, 4, 5, 6], ⟨(some 83), none, .op (.move (.tmp 11))⟩),
                  (8, [0, 1, 6], ⟨(some 84), none, .call 53 [(.tmp 83), (.const (.int .i64 25))]⟩),
                  (9, [0, 1], ⟨(some 85), none, .op (.bin .xor (.tmp 82) (.tmp 84))⟩),
                  (10, [], ⟨(some 86), none, .op (.bin .add (.tmp 77) (.tmp 85))⟩),
                  (11, [0, 1, 2, 3, 4, 5, 6, 7, 8, 9, 10], ⟨(some 87), none, .op (.move (.tmp 11))⟩),
                  (12, [0, 1, 2, 3, 4, 5, 6, 7, 8, 9, 10, 11], ⟨(some 88), none, .op (.idxArr 1 8 (.tmp 8) (.const (.int .i64 5)))⟩),
                  (13, [0, 1, 2, 3, 4, 5, 6, 7, 8, 9, 10, 11], ⟨(some 89), none, .op (.load none (.tmp 88))⟩),
                  (14, [0, 1, 2, 3, 4, 5, 6, 7, 8, 9, 10], ⟨(some 90), none, .op (.bin .and (.tmp 87) (.tmp 89))⟩),
                  (15, [0, 1, 2, 3, 4, 5, 6, 7, 8, 9, 10, 11, 12, 13, 14], ⟨(some 91), none, .op (.move (.tmp 11))⟩),
                  (16, [0, 1, 2, 3, 4, 5, 6, 7, 8, 9, 10, 11, 12, 13, 14], ⟨(some 92), none, .op (.un .xor (.tmp 91))⟩),
                  (17, [0, 1, 2, 3, 4, 5, 6, 7, 8, 9, 10, 11, 12, 13, 14, 15, 16], ⟨(some 93), none, .op (.idxArr 1 8 (.tmp 8) (.const (.int .i64 6)))⟩),
                  (18, [0, 1, 2, 3, 4, 5, 6, 7, 8, 9, 10, 11, 12, 13, 14, 15, 16], ⟨(some 94), none, .op (.load none (.tmp 93))⟩),
                  (19, [0, 1, 2, 3, 4, 5, 6, 7, 8, 9, 10, 11, 12, 13, 14], ⟨(some 95), none, .op (.bin .and (.tmp 92) (.tmp 94))⟩),
                  (20, [0, 1, 2, 3, 4, 5, 6, 7, 8, 9, 10], ⟨(some 96), none, .op (.bin .xor (.tmp 90) (.tmp 95))⟩),
                  (21, [], ⟨(some 97), none, .op (.bin .add (.tmp 86) (.tmp 96))⟩),
                  (22, [0, 1, 2, 3, 4, 5, 6, 7, 8, 9, 10, 11, 12, 13, 14, 15, 16, 17, 18, 19, 20, 21], ⟨(some 98), none, .op (.move (.tmp 9))⟩),
                  (23, [0, 1, 2, 3, 4, 5, 6, 7, 8, 9, 10, 11, 12, 13, 14, 15, 16, 17, 18, 19, 20, 21], ⟨(some 99), none, .op (.idxArr 1 64 (.const (.gl 1)) (.tmp 98))⟩),
                  (24, [0, 1, 2, 3, 4, 5, 6, 7, 8, 9, 10, 11, 12, 13, 14, 15, 16, 17, 18, 19, 20, 21], ⟨(some 100), none, .op (.load none (.tmp 99))⟩),
                  (25, [], ⟨(some 101), none, .op (.bin .add (.tmp 97) (.tmp 100))⟩),
                  (26, [0, 1, 2, 3, 4, 5, 6, 7, 8, 9, 10, 11, 12, 13, 14, 15, 16, 17, 18, 19, 20, 21, 22, 23, 24, 25], ⟨(some 102), none, .op (.move (.tmp 9))⟩),
                  (27, [0, 1, 2, 3, 4, 5, 6, 7, 8, 9, 10, 11, 12, 13, 14, 15, 16, 17, 18, 19, 20, 21, 22, 23, 24, 25], ⟨(some 103), none, .op (.idxArr 1 64 (.tmp 4) (.tmp 102))⟩),
                  (28, [0, 1, 2, 3, 4, 5, 6, 7, 8, 9, 10, 11, 12, 13, 14, 15, 16, 17, 18, 19, 20, 21, 22, 23, 24, 25], ⟨(some 104), none, .op (.load none (.tmp 103))⟩),
                  (29, [], ⟨(some 105), none, .op (.bin .add (.tmp 101) (.tmp 104))⟩),
                  (30, [], ⟨(some 12), none, .op (.move (.tmp 105))⟩)])
                (.seq
                 (.draws [(0, [], ⟨(some 106), none, .op (.move (.tmp 10))⟩),
                   (1, [], ⟨(some 107), none, .call 53 [(.tmp 106), (.const (.int .i64 2))]⟩),
                   (2, [0, 1], ⟨(some 108), none, .op (.move (.tmp 10))⟩),
                   (3, [], ⟨(some 109), none, .call 53 [(.tmp 108), (.const (.int .i64 13))]⟩),
                   (4, [], ⟨(some 110), none, .op (.bin .xor (.tmp 107) (.tmp 109))⟩),
                   (5, [0, 1, 2, 3, 4], ⟨(some 111), none, .op (.move (.tmp 10))⟩),
                   (6, [4], ⟨(some 112), none, .call 53 [(.tmp 111), (.const (.int .i64 22))]⟩),
                   (7, [], ⟨(some 113), none, .op (.bin .xor (.tmp 110) (.tmp 112))⟩),
                   (8, [0, 1, 2, 3, 4, 5, 6, 7], ⟨(some 114), none, .op (.move (.tmp 10))⟩),
                   (9, [0, 1, 2, 3, 4, 5, 6, 7, 8], ⟨(some 115), none, .op (.idxArr 1 8 (.tmp 8) (.const (.int .i64 1)))⟩),
                   (10, [0, 1, 2, 3, 4, 5, 6, 7, 8], ⟨(some 116), none, .op (.load none (.tmp 115))⟩),
                   (11, [0, 1, 2, 3, 4, 5, 6, 7], ⟨(some 117), none, .op (.bin .and (.tmp 114) (.tmp 116))⟩),
                   (12, [0, 1, 2, 3, 4, 5, 6, 7, 8, 9, 10, 11], ⟨(some 118), none, .op (.move (.tmp 10))⟩),
                   (13, [0, 1, 2, 3, 4, 5, 6, 7, 8, 9, 10, 11, 12], ⟨(some 119), none, .op (.idxArr 1 8 (.tmp 8) (.const (.int .i64 2)))⟩),
                   (14, [0, 1, 2, 3, 4, 5, 6, 7, 8, 9, 10, 11, 12], ⟨(some 120), none, .op (.load none (.tmp 119))⟩),
                   (15, [0, 1, 2, 3, 4, 5, 6, 7, 8, 9, 10, 11], ⟨(some 121), none, .op (.bin .and (.tmp 118) (.tmp 120))⟩),
                   (16, [0, 1, 2, 3, 4, 5, 6, 7], ⟨(some 122), none, .op (.bin .xor (.tmp 117) (.tmp 121))⟩),
                   (17, [0, 1, 2, 3, 4, 5, 6, 7, 8, 9, 10, 11, 12, 13, 14, 15, 16], ⟨(some 123), none, .op (.idxArr 1 8 (.tmp 8) (.const (.int .i64 1)))⟩),
                   (18, [0, 1, 2, 3, 4, 5, 6, 7, 8, 9, 10, 11, 12, 13, 14, 15, 16], ⟨(some 124), none, .op (.load none (.tmp 123))⟩),
                   (19, [0, 1, 2, 3, 4, 5, 6, 7, 8, 9, 10, 11, 12, 13, 14, 15, 16, 17, 18], ⟨(some 125), none, .op (.idxArr 1 8 (.tmp 8) (.const (.int .i64 2)))⟩),
                   (20, [0, 1, 2, 3, 4, 5, 6, 7, 8, 9, 10, 11, 12, 13, 14, 15, 16, 17, 18], ⟨(some 126), none, .op (.load none (.tmp 125))⟩),
                   (21, [0, 1, 2, 3, 4, 5, 6, 7, 8, 9, 10, 11, 12, 13, 14, 15, 16], ⟨(some 127), none, .op (.bin .and (.tmp 124) (.tmp 126))⟩),
                   (22, [0, 1, 2, 3, 4, 5, 6, 7], ⟨(some 128), none, .op (.bin .xor (.tmp 122) (.tmp 127))⟩),
                   (23, [], ⟨(some 129), none, .op (.bin .add (.tmp 113) (.tmp 128))⟩),
                   (24, [], ⟨(some 13), none, .op (.move (.tmp 129))⟩)])
                 (.region [⟨(some 130), none, .op (.move (.tmp 12))⟩,
                   ⟨(some 131), none, .op (.move (.tmp 13))⟩,
                   ⟨(some 132), none, .op (.bin .add (.tmp 130) (.tmp 131))⟩,
                   ⟨(some 133), none, .op (.idxArr 1 8 (.tmp 8) (.const (.int .i64 0)))⟩,
                   ⟨(some 134), none, .op (.load none (.tmp 133))⟩,
                   ⟨(some 135), none, .op (.idxArr 1 8 (.tmp 8) (.const (.int .i64 1)))⟩,
                   ⟨(some 136), none, .op (.load none (.tmp 135))⟩,
                   ⟨(some 137), none, .op (.idxArr 1 8 (.tmp 8) (.const (.int .i64 2)))⟩,
                   ⟨(some 138), none, .op (.load none (.tmp 137))⟩,
                   ⟨(some 139), none, .op (.idxArr 1 8 (.tmp 8) (.const (.int .i64 3)))⟩,
                   ⟨(some 140), none, .op (.load none (.tmp 139))⟩,
                   ⟨(some 141), none, .op (.move (.tmp 12))⟩,
                   ⟨(some 142), none, .op (.bin .add (.tmp 140) (.tmp 141))⟩,
                   ⟨(some 143), none, .op (.idxArr 1 8 (.tmp 8) (.const (.int .i64 4)))⟩,
                   ⟨(some 144), none, .op (.load none (.tmp 143))⟩,
                   ⟨(some 145), none, .op (.idxArr 1 8 (.tmp 8) (.const (.int .i64 5)))⟩,
                   ⟨(some 146), none, .op (.load none (.tmp 145))⟩,
                   ⟨(some 147), none, .op (.idxArr 1 8 (.tmp 8) (.const (.int .i64 6)))⟩,
                   ⟨(some 148), none, .op (.load none (.tmp 147))⟩,
                   ⟨(some 149), none, .op (.bar 1 8 (.one (.int .u32 0) .nil) [(0, (.tmp 132)), (1, (.tmp 134)), (2, (.tmp 136)), (3, (.tmp 138)), (4, (.tmp 142)), (5, (.tmp 144)), (6, (.tmp 146)), (7, (.tmp 148))])⟩,
                   ⟨none, none, .op (.store 8 (.tmp 8) (.tmp 149))⟩]))))))
            (.region [⟨(some 150), none, .op (.bin .add (.tmp 69) (.const (.int .i64 1)))⟩,
              ⟨(some 69), none, .op (.move (.tmp 150))⟩])))))))
      (.seq
       (.region [⟨(some 151), none, .op (.move (.const (.int .i64 0)))⟩])
       (.block 4
        (.loop
         (.seq
          (.region [⟨(some 152), none, .op (.bin .lss (.tmp 151) (.const (.int .i64 8)))⟩])
          (.seq
           (.cond (.tmp 152)
            (.skip)
            (.exit 4))
           (.seq
            (.block 5
             (.seq
              (.region [⟨(some 153), none, .op (.move (.tmp 151))⟩,
                ⟨(some 14), none, .op (.move (.tmp 153))⟩])
              (.draws [(0, [], ⟨(some 154), none, .op (.move (.tmp 0))⟩),
                (1, [0], ⟨(some 155), none, .op (.move (.tmp 14))⟩),
                (2, [1], ⟨(some 156), none, .op (.nilc (.tmp 154))⟩),
                (3, [1], ⟨(some 157), none, .op (.field 0 (.tmp 156))⟩),
                (4, [], ⟨(some 158), none, .op (.idxArr 1 8 (.tmp 157) (.tmp 155))⟩),
                (5, [], ⟨(some 159), none, .op (.load none (.tmp 158))⟩),
                (6, [0, 1, 2, 3, 4, 5], ⟨(some 160), none, .op (.move (.tmp 14))⟩),
                (7, [0, 1, 2, 3, 4, 5], ⟨(some 161), none, .op (.idxArr 1 8 (.tmp 8) (.tmp 160))⟩),
                (8, [0, 1, 2, 3, 4, 5], ⟨(some 162), none, .op (.load none (.tmp 161))⟩),
                (9, [], ⟨(some 163), none, .op (.bin .add (.tmp 159) (.tmp 162))⟩),
                (10, [1, 2, 3, 4, 5, 6, 7, 8, 9], ⟨(some 164), none, .op (.nilc (.tmp 154))⟩),
                (11, [1, 2, 3, 4, 5, 6, 7, 8, 9], ⟨(some 165), none, .op (.field 0 (.tmp 164))⟩),
                (12, [], ⟨(some 166), none, .op (.idxArr 1 8 (.tmp 165) (.tmp 155))⟩),
                (13, [], ⟨none, none, .op (.store 1 (.tmp 166) (.tmp 163))⟩)])))
            (.region [⟨(some 167), none, .op (.bin .add (.tmp 151) (.const (.int .i64 1)))⟩,
              ⟨(some 151), none, .op (.move (.tmp 167))⟩]))))))))))
def r40 : List LRes := []
theorem body40 : Tryd.f40.body.bind (compileC Tryd.prog) = some c40 := by kernel_rfl
theorem res40 : compileRes Tryd.prog Tryd.f40.results.toList = some r40 := by kernel_rfl
theorem has40 : hasBody Tryd.prog 40 = true := by kernel_rfl
theorem enter40 {args : LVals} {h : LHeap} {R : LEnd → LHeap → Prop} (hk : 168 - lvsLen args = 166) (hw : initK args 166 fun t => lwp Tryd.prog h.length c40 (bodyQ r40 R) t h) : LCalls Tryd.prog 40 args h R := LCalls.enter Tryd.func40 body40 has40 res40 _ (by rw [Tryd.ntmps40]; exact hk) hw
theorem denter40 {args : LVals} {u : LMode} {h : LHeap} {K : LMode → LHeap → Prop} (hk : 168 - lvsLen args = 166) (hw : initK args 166 fun t => lwp Tryd.prog h.length c40 (dQ K u) t h) : LCallsD Tryd.prog 40 args u h K := LCallsD.enter Tryd.func40 body40 has40 res40 _ (by rw [Tryd.ntmps40]; exact hk) hw
/-- palatine/sha.word -/
def c52 : LCode :=
  .seq
   (.region [⟨(some 2), none, .op (.move (.const (.int .u32 0)))⟩])
   (.seq
    (.draws [(0, [], ⟨(some 3), none, .op (.move (.tmp 0))⟩),
      (1, [], ⟨(some 4), none, .op (.idxSl 1 (.tmp 3) (.const (.int .i64 0)))⟩),
      (2, [], ⟨(some 5), none, .op (.load none (.tmp 4))⟩),
      (3, [], ⟨(some 6), none, .op (.toInt .u32 (.tmp 5))⟩),
      (4, [], ⟨(some 7), none, .op (.shc true 16777216 .u32 (.tmp 6))⟩),
      (5, [0, 1, 2, 3, 4], ⟨(some 8), none, .op (.move (.tmp 0))⟩),
      (6, [0, 1, 2, 3, 4], ⟨(some 9), none, .op (.idxSl 1 (.tmp 8) (.const (.int .i64 1)))⟩),
      (7, [0, 1, 2, 3, 4], ⟨(some 10), none, .op (.load none (.tmp 9))⟩),
      (8, [0, 1, 2, 3, 4], ⟨(some 11), none, .op (.toInt .u32 (.tmp 10))⟩),
      (9, [0, 1, 2, 3, 4], ⟨(some 12), none, .op (.shc true 65536 .u32 (.tmp 11))⟩),
      (10, [], ⟨(some 13), none, .op (.bin .or (.tmp 7) (.tmp 12))⟩),
      (11, [0, 1, 2, 3, 4, 5, 6, 7, 8, 9, 10], ⟨(some 14), none, .op (.move (.tmp 0))⟩),
      (12, [0, 1, 2, 3, 4, 5, 6, 7, 8, 9, 10], ⟨(some 15), none, .op (.idxSl 1 (.tmp 14) (.const (.int .i64 2)))⟩),
      (13, [0, 1, 2, 3, 4, 5, 6, 7, 8, 9, 10], ⟨(some 16), none, .op (.load none (.tmp 15))⟩),
      (14, [0, 1, 2, 3, 4, 5, 6, 7, 8, 9, 10], ⟨(some 17), none, .op (.toInt .u32 (.tmp 16))⟩),
      (15, [0, 1, 2, 3, 4, 5, 6, 7, 8, 9, 10], ⟨(some 18), none, .op (.shc true 256 .u32 (.tmp 17))⟩),
      (16, [], ⟨(some 19), none, .op (.bin .or (.tmp 13) (.tmp 18))⟩),
      (17, [0, 1, 2, 3, 4, 5, 6, 7, 8, 9, 10, 11, 12, 13, 14, 15, 16], ⟨(some 20), none, .op (.move (.tmp 0))⟩),
      (18, [0, 1, 2, 3, 4, 5, 6, 7, 8, 9, 10, 11, 12, 13, 14, 15, 16], ⟨(some 21), none, .op (.idxSl 1 (.tmp 20) (.const (.int .i64 3)))⟩),
      (19, [0, 1, 2, 3, 4, 5, 6, 7, 8, 9, 10, 11, 12, 13, 14, 15, 16], ⟨(some 22), none, .op (.load none (.tmp 21))⟩),
      (20, [0, 1, 2, 3, 4, 5, 6, 7, 8, 9, 10, 11, 12, 13, 14, 15, 16], ⟨(some 23), none, .op (.toInt .u32 (.tmp 22))⟩),
      (21, [], ⟨(some 24), none, .op (.bin .or (.tmp 19) (.tmp 23))⟩),
      (22, [], ⟨(some 2), none, .op (.move (.tmp 24))⟩)])
    (.ret))
def r52 : List LRes := [.tmp 2]
theorem body52 : Tryd.f52.body.bind (compileC Tryd.prog) = some c52 := by kernel_rfl
theorem res52 : compileRes Tryd.prog Tryd.f52.results.toList = some r52 := by kernel_rfl
theorem has52 : hasBody Tryd.prog 52 = true := by kernel_rfl
theorem enter52 {args : LVals} {h : LHeap} {R : LEnd → LHeap → Prop} (hk : 25 - lvsLen args = 24) (hw : initK args 24 fun t => lwp Tryd.prog h.length c52 (bodyQ r52 R) t h) : LCalls Tryd.prog 52 args h R := LCalls.enter Tryd.func52 body52 has52 res52 _ (by rw [Tryd.ntmps52]; exact hk) hw
/-- palatine/sha.right -/
def c53 : LCode :=
  .seq
   (.region [⟨(some 4), none, .op (.move (.const (.int .u32 0)))⟩])
   (.seq
    (.region [⟨(some 5), none, .op (.move (.tmp 0))⟩,
      ⟨(some 6), none, .op (.move (.tmp 1))⟩,
      ⟨(some 7), none, .op (.un .neg (.tmp 6))⟩,
      ⟨(some 8), none, .call 57 [(.tmp 5), (.tmp 7)]⟩,
      ⟨(some 4), none, .op (.move (.tmp 8))⟩])
    (.ret))
def r53 : List LRes := [.tmp 4]
theorem body53 : Tryd.f53.body.bind (compileC Tryd.prog) = some c53 := by kernel_rfl
theorem res53 : compileRes Tryd.prog Tryd.f53.results.toList = some r53 := by kernel_rfl
theorem has53 : hasBody Tryd.prog 53 = true := by kernel_rfl
theorem enter53 {args : LVals} {h : LHeap} {R : LEnd → LHeap → Prop} (hk : 9 - lvsLen args = 7) (hw : initK args 7 fun t => lwp Tryd.prog h.length c53 (bodyQ r53 R) t h) : LCalls Tryd.prog 53 args h R := LCalls.enter Tryd.func53 body53 has53 res53 _ (by rw [Tryd.ntmps53]; exact hk) hw
/-- math/bits.RotateLeft32 -/
def c57 : LCode :=
  .seq
   (.region [⟨(some 4), none, .op (.move (.const (.int .u32 0)))⟩])
   (.seq
    (.region [⟨(some 6), none, .op (.move (.tmp 1))⟩,
      ⟨(some 7), none, .op (.toInt .u64 (.tmp 6))⟩,
      ⟨(some 8), none, .op (.bin .and (.tmp 7) (.const (.int .u64 31)))⟩,
      ⟨(some 5), none, .op (.move (.tmp 8))⟩])
    (.seq
     (.region [⟨(some 9), none, .op (.move (.tmp 0))⟩,
       ⟨(some 10), none, .op (.move (.tmp 5))⟩,
       ⟨(some 11), none, .op (.bin .shl (.tmp 9) (.tmp 10))⟩,
       ⟨(some 12), none, .op (.move (.tmp 0))⟩,
       ⟨(some 13), none, .op (.move (.tmp 5))⟩,
       ⟨(some 14), none, .op (.bin .sub (.const (.int .u64 32)) (.tmp 13))⟩,
       ⟨(some 15), none, .op (.bin .shr (.tmp 12) (.tmp 14))⟩,
       ⟨(some 16), none, .op (.bin .or (.tmp 11) (.tmp 15))⟩,
       ⟨(some 4), none, .op (.move (.tmp 16))⟩])
     (.ret)))
def r57 : List LRes := [.tmp 4]
theorem body57 : Tryd.f57.body.bind (compileC Tryd.prog) = some c57 := by kernel_rfl
theorem res57 : compileRes Tryd.prog Tryd.f57.results.toList = some r57 := by kernel_rfl
theorem has57 : hasBody Tryd.prog 57 = true := by kernel_rfl
theorem enter57 {args : LVals} {h : LHeap} {R : LEnd → LHeap → Prop} (hk : 17 - lvsLen args = 15) (hw : initK args 15 fun t => lwp Tryd.prog h.length c57 (bodyQ r57 R) t h) : LCalls Tryd.prog 57 args h R := LCalls.enter Tryd.func57 body57 has57 res57 _ (by rw [Tryd.ntmps57]; exact hk) hw
end Go.Proofs.YtaikhgmhocllfaaDoor.Sk
