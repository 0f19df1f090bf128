/- The functions of the net, as codes on the heap of the mind. Written by a program of this session. -/
import Derived.Test.YtnmbbkhjbflojaaProg
import Derived.Test.YtnmbbkhjbflojaaLh12
namespace Go.Proofs.Ytnmbbkhjbflojaa.Net
open Go.Proofs.Ytnmbbkhjbflojaa.Lh
set_option maxRecDepth 100000
/-- palatine/palatinelaw20.NetPlays -/
def c3 : LCode :=
  .seq
   (.region [⟨(some 4), none, .op (.move (.const (.bool false)))⟩])
   (.seq
    (.region [⟨(some 18), none, .call 7 []⟩,
      ⟨(some 5), none, .op (.move (.tmp 18))⟩])
    (.seq
     (.region [⟨(some 20), none, .op (.move (.tmp 0))⟩,
       ⟨(some 21), none, .call 8 [(.tmp 20)]⟩,
       ⟨(some 19), none, .op (.move (.tmp 21))⟩,
       ⟨(some 22), none, .op (.ext 0 (.tmp 19))⟩,
       ⟨(some 23), none, .op (.ext 1 (.tmp 19))⟩,
       ⟨(some 6), none, .op (.move (.tmp 22))⟩,
       ⟨(some 7), none, .op (.move (.tmp 23))⟩])
     (.seq
      (.region [⟨(some 24), none, .op (.move (.tmp 0))⟩,
        ⟨(some 25), none, .op (.bin .geq (.tmp 24) (.const (.int .i64 1)))⟩,
        ⟨(some 26), none, .op (.move (.tmp 25))⟩,
        ⟨(some 27), some (26, true), .op (.move (.tmp 0))⟩,
        ⟨(some 28), some (26, true), .op (.bin .leq (.tmp 27) (.const (.int .i64 8)))⟩,
        ⟨(some 29), none, .op (.pick (.tmp 26) (.tmp 28) (.const (.bool false)))⟩,
        ⟨(some 8), none, .op (.move (.tmp 29))⟩])
      (.seq
       (.seq
        (.region [⟨(some 30), none, .op (.move (.tmp 6))⟩,
          ⟨(some 31), none, .op (.peq true (.tmp 30) (.const .nilp))⟩,
          ⟨(some 32), none, .op (.move (.tmp 8))⟩,
          ⟨(some 33), none, .op (.beq true (.tmp 31) (.tmp 32))⟩,
          ⟨(some 34), none, .op (.move (.tmp 33))⟩,
          ⟨(some 35), some (34, false), .op (.move (.tmp 7))⟩,
          ⟨(some 36), some (34, false), .op (.bin .eql (.tmp 35) (.const (.int .i64 0)))⟩,
          ⟨(some 37), some (34, false), .op (.move (.tmp 8))⟩,
          ⟨(some 38), some (34, false), .op (.beq true (.tmp 36) (.tmp 37))⟩,
          ⟨(some 39), none, .op (.pick (.tmp 34) (.const (.bool true)) (.tmp 38))⟩])
        (.cond (.tmp 39)
         (.seq
          (.region [⟨(some 4), none, .op (.move (.const (.bool false)))⟩])
          (.ret))
         (.skip)))
       (.seq
        (.seq
         (.region [⟨(some 40), none, .op (.move (.tmp 6))⟩,
           ⟨(some 41), none, .op (.peq false (.tmp 40) (.const .nilp))⟩])
         (.cond (.tmp 41)
          (.seq
           (.region [⟨(some 42), none, .op (.move (.tmp 5))⟩,
             ⟨(some 43), none, .op (.move (.tmp 42))⟩,
             ⟨(some 44), some (43, true), .op (.move (.tmp 7))⟩,
             ⟨(some 45), some (43, true), .op (.bin .eql (.tmp 44) (.const (.int .i64 1)))⟩,
             ⟨(some 46), none, .op (.pick (.tmp 43) (.tmp 45) (.const (.bool false)))⟩,
             ⟨(some 4), none, .op (.move (.tmp 46))⟩])
           (.ret))
          (.skip)))
        (.seq
         (.region [⟨(some 47), none, .op (.move (.tmp 0))⟩,
           ⟨(some 48), none, .op (.bst (.one (.int .i64 0) (.one (.slice ⟨0, [], 0⟩ 0 0 0 0 (some 0)) (.one (.int .i64 0) (.one (.int .i64 0) (.one (.int .i64 0) (.one (.int .i64 0) .nil)))))) [(0, 1, (.tmp 47))])⟩,
           ⟨(some 49), none, .op (.box 31 6 (.tmp 48))⟩,
           ⟨(some 9), none, .op (.move (.tmp 49))⟩])
         (.seq
          (.seq
           (.region [⟨(some 10), none, .op (.move (.const (.int .i64 0)))⟩])
           (.block 0
            (.loop
             (.seq
              (.seq
               (.region [⟨(some 50), none, .op (.move (.tmp 10))⟩,
                 ⟨(some 51), none, .op (.move (.tmp 1))⟩,
                 ⟨(some 52), none, .op (.lenSl (.tmp 51))⟩,
                 ⟨(some 53), none, .op (.bin .lss (.tmp 50) (.tmp 52))⟩,
                 ⟨(some 54), none, .op (.move (.tmp 53))⟩,
                 ⟨(some 55), some (54, true), .op (.move (.tmp 10))⟩,
                 ⟨(some 56), some (54, true), .op (.bin .lss (.tmp 55) (.const (.int .i64 300)))⟩,
                 ⟨(some 57), none, .op (.pick (.tmp 54) (.tmp 56) (.const (.bool false)))⟩])
               (.cond (.tmp 57)
                (.skip)
                (.exit 0)))
              (.seq
               (.block 1
                (.seq
                 (.region [⟨(some 60), none, .op (.move (.tmp 6))⟩,
                   ⟨(some 61), none, .op (.move (.tmp 9))⟩,
                   ⟨(some 62), none, .op (.move (.tmp 1))⟩,
                   ⟨(some 63), none, .op (.move (.tmp 10))⟩,
                   ⟨(some 64), none, .op (.idxSl 5 (.tmp 62) (.tmp 63))⟩,
                   ⟨(some 65), none, .op (.load (some 5) (.tmp 64))⟩,
                   ⟨(some 66), none, .call 9 [(.tmp 60), (.tmp 61), (.tmp 65)]⟩,
                   ⟨(some 11), none, .op (.move (.tmp 66))⟩])
                 (.seq
                  (.region [⟨(some 67), none, .op (.move (.tmp 11))⟩,
                    ⟨(some 68), none, .op (.un .not (.tmp 67))⟩])
                  (.cond (.tmp 68)
                   (.seq
                    (.region [⟨(some 4), none, .op (.move (.const (.bool false)))⟩])
                    (.ret))
                   (.skip)))))
               (.region [⟨(some 58), none, .op (.move (.tmp 10))⟩,
                 ⟨(some 59), none, .op (.bin .add (.tmp 58) (.const (.int .i64 1)))⟩,
                 ⟨(some 10), none, .op (.move (.tmp 59))⟩]))))))
          (.seq
           (.region [⟨(some 69), none, .op (.move (.tmp 6))⟩,
             ⟨(some 70), none, .call 10 [(.tmp 69)]⟩,
             ⟨(some 12), none, .op (.move (.tmp 70))⟩])
           (.seq
            (.seq
             (.region [⟨(some 71), none, .op (.move (.tmp 12))⟩,
               ⟨(some 72), none, .op (.lenSl (.tmp 71))⟩,
               ⟨(some 73), none, .op (.move (.tmp 9))⟩,
               ⟨(some 74), none, .op (.nilc (.tmp 73))⟩,
               ⟨(some 75), none, .op (.field 1 (.tmp 74))⟩,
               ⟨(some 76), none, .op (.load none (.tmp 75))⟩,
               ⟨(some 77), none, .op (.lenSl (.tmp 76))⟩,
               ⟨(some 78), none, .op (.bin .neq (.tmp 72) (.tmp 77))⟩])
             (.cond (.tmp 78)
              (.seq
               (.region [⟨(some 4), none, .op (.move (.const (.bool false)))⟩])
               (.ret))
              (.skip)))
            (.seq
             (.seq
              (.region [⟨(some 13), none, .op (.move (.const (.int .i64 0)))⟩])
              (.block 2
               (.loop
                (.seq
                 (.seq
                  (.region [⟨(some 79), none, .op (.move (.tmp 13))⟩,
                    ⟨(some 80), none, .op (.move (.tmp 12))⟩,
                    ⟨(some 81), none, .op (.lenSl (.tmp 80))⟩,
                    ⟨(some 82), none, .op (.bin .lss (.tmp 79) (.tmp 81))⟩])
                  (.cond (.tmp 82)
                   (.skip)
                   (.exit 2)))
                 (.seq
                  (.block 3
                   (.seq
                    (.draws [(0, [], ⟨(some 85), none, .op (.move (.tmp 12))⟩),
                      (1, [0], ⟨(some 86), none, .op (.move (.tmp 13))⟩),
                      (2, [], ⟨(some 87), none, .op (.idxSl 3 (.tmp 85) (.tmp 86))⟩),
                      (3, [], ⟨(some 88), none, .op (.load (some 3) (.tmp 87))⟩),
                      (4, [0, 1, 2, 3], ⟨(some 89), none, .op (.move (.tmp 9))⟩),
                      (5, [0, 1, 2, 3], ⟨(some 90), none, .op (.nilc (.tmp 89))⟩),
                      (6, [0, 1, 2, 3], ⟨(some 91), none, .op (.field 1 (.tmp 90))⟩),
                      (7, [0, 1, 2, 3], ⟨(some 92), none, .op (.load none (.tmp 91))⟩),
                      (8, [0, 1, 2, 3, 4, 5, 6, 7], ⟨(some 93), none, .op (.move (.tmp 13))⟩),
                      (9, [0, 1, 2, 3], ⟨(some 94), none, .op (.idxSl 3 (.tmp 92) (.tmp 93))⟩),
                      (10, [0, 1, 2, 3], ⟨(some 95), none, .op (.load (some 3) (.tmp 94))⟩),
                      (11, [], ⟨(some 96), none, .op (.st true [(0, 0), (1, 0), (2, 1)] (.tmp 88) (.tmp 95))⟩)])
                    (.cond (.tmp 96)
                     (.seq
                      (.region [⟨(some 4), none, .op (.move (.const (.bool false)))⟩])
                      (.ret))
                     (.skip))))
                  (.region [⟨(some 83), none, .op (.move (.tmp 13))⟩,
                    ⟨(some 84), none, .op (.bin .add (.tmp 83) (.const (.int .i64 1)))⟩,
                    ⟨(some 13), none, .op (.move (.tmp 84))⟩]))))))
             (.seq
              (.region [⟨(some 98), none, .op (.move (.tmp 6))⟩,
                ⟨(some 99), none, .call 11 [(.tmp 98)]⟩,
                ⟨(some 97), none, .op (.move (.tmp 99))⟩,
                ⟨(some 100), none, .op (.ext 0 (.tmp 97))⟩,
                ⟨(some 101), none, .op (.ext 1 (.tmp 97))⟩,
                ⟨(some 102), none, .op (.ext 2 (.tmp 97))⟩,
                ⟨(some 103), none, .op (.ext 3 (.tmp 97))⟩,
                ⟨(some 14), none, .op (.move (.tmp 100))⟩,
                ⟨(some 15), none, .op (.move (.tmp 101))⟩,
                ⟨(some 16), none, .op (.move (.tmp 102))⟩,
                ⟨(some 17), none, .op (.move (.tmp 103))⟩])
              (.seq
               (.region [⟨(some 104), none, .op (.move (.tmp 5))⟩,
                 ⟨(some 105), none, .op (.move (.tmp 104))⟩,
                 ⟨(some 106), some (105, true), .op (.move (.tmp 14))⟩,
                 ⟨(some 107), some (105, true), .op (.move (.tmp 9))⟩,
                 ⟨(some 108), some (105, true), .op (.nilc (.tmp 107))⟩,
                 ⟨(some 109), some (105, true), .op (.field 2 (.tmp 108))⟩,
                 ⟨(some 110), some (105, true), .op (.load none (.tmp 109))⟩,
                 ⟨(some 111), some (105, true), .op (.bin .eql (.tmp 106) (.tmp 110))⟩,
                 ⟨(some 112), none, .op (.pick (.tmp 105) (.tmp 111) (.const (.bool false)))⟩,
                 ⟨(some 113), none, .op (.move (.tmp 112))⟩,
                 ⟨(some 114), some (113, true), .op (.move (.tmp 15))⟩,
                 ⟨(some 115), some (113, true), .op (.move (.tmp 9))⟩,
                 ⟨(some 116), some (113, true), .op (.nilc (.tmp 115))⟩,
                 ⟨(some 117), some (113, true), .op (.field 3 (.tmp 116))⟩,
                 ⟨(some 118), some (113, true), .op (.load none (.tmp 117))⟩,
                 ⟨(some 119), some (113, true), .op (.bin .eql (.tmp 114) (.tmp 118))⟩,
                 ⟨(some 120), none, .op (.pick (.tmp 113) (.tmp 119) (.const (.bool false)))⟩,
                 ⟨(some 121), none, .op (.move (.tmp 120))⟩,
                 ⟨(some 122), some (121, true), .op (.move (.tmp 16))⟩,
                 ⟨(some 123), some (121, true), .op (.move (.tmp 9))⟩,
                 ⟨(some 124), some (121, true), .op (.nilc (.tmp 123))⟩,
                 ⟨(some 125), some (121, true), .op (.field 4 (.tmp 124))⟩,
                 ⟨(some 126), some (121, true), .op (.load none (.tmp 125))⟩,
                 ⟨(some 127), some (121, true), .op (.bin .eql (.tmp 122) (.tmp 126))⟩,
                 ⟨(some 128), none, .op (.pick (.tmp 121) (.tmp 127) (.const (.bool false)))⟩,
                 ⟨(some 129), none, .op (.move (.tmp 128))⟩,
                 ⟨(some 130), some (129, true), .op (.move (.tmp 17))⟩,
                 ⟨(some 131), some (129, true), .op (.move (.tmp 9))⟩,
                 ⟨(some 132), some (129, true), .op (.nilc (.tmp 131))⟩,
                 ⟨(some 133), some (129, true), .op (.field 5 (.tmp 132))⟩,
                 ⟨(some 134), some (129, true), .op (.load none (.tmp 133))⟩,
                 ⟨(some 135), some (129, true), .op (.bin .eql (.tmp 130) (.tmp 134))⟩,
                 ⟨(some 136), none, .op (.pick (.tmp 129) (.tmp 135) (.const (.bool false)))⟩,
                 ⟨(some 4), none, .op (.move (.tmp 136))⟩])
               (.ret)))))))))))))
def r3 : List LRes := [.tmp 4]
theorem body3 : Try.f3.body.bind (compileC Try.prog) = some c3 := by kernel_rfl
theorem res3 : compileRes Try.prog Try.f3.results.toList = some r3 := by kernel_rfl
theorem has3 : hasBody Try.prog 3 = true := by kernel_rfl
theorem enter3 {args : LVals} {h : LHeap} {R : LEnd → LHeap → Prop} (hk : 137 - lvsLen args = 135) (hw : initK args 135 fun t => lwp Try.prog h.length c3 (bodyQ r3 R) t h) : LCalls Try.prog 3 args h R := LCalls.enter Try.func3 body3 has3 res3 _ (by rw [Try.ntmps3]; exact hk) hw
/-- palatine/palatinelaw20.NetKeeps -/
def c4 : LCode :=
  .seq
   (.region [⟨(some 2), none, .op (.move (.const (.bool false)))⟩])
   (.seq
    (.region [⟨(some 19), none, .call 7 []⟩,
      ⟨(some 3), none, .op (.move (.tmp 19))⟩])
    (.seq
     (.region [⟨(some 21), none, .call 8 [(.const (.int .i64 4))]⟩,
       ⟨(some 20), none, .op (.move (.tmp 21))⟩,
       ⟨(some 22), none, .op (.ext 0 (.tmp 20))⟩,
       ⟨(some 23), none, .op (.ext 1 (.tmp 20))⟩,
       ⟨(some 4), none, .op (.move (.tmp 22))⟩,
       ⟨(some 5), none, .op (.move (.tmp 23))⟩])
     (.seq
      (.seq
       (.region [⟨(some 24), none, .op (.move (.tmp 4))⟩,
         ⟨(some 25), none, .op (.peq false (.tmp 24) (.const .nilp))⟩])
       (.cond (.tmp 25)
        (.seq
         (.region [⟨(some 2), none, .op (.move (.const (.bool false)))⟩])
         (.ret))
        (.skip)))
      (.seq
       (.region [⟨(some 6), none, .op (.move (.const (.slice ⟨0, [], 0⟩ 0 0 0 0 (some 0))))⟩])
       (.seq
        (.seq
         (.region [⟨(some 7), none, .op (.move (.const (.int .i64 0)))⟩])
         (.block 0
          (.loop
           (.seq
            (.seq
             (.region [⟨(some 26), none, .op (.move (.tmp 7))⟩,
               ⟨(some 27), none, .op (.move (.tmp 0))⟩,
               ⟨(some 28), none, .op (.lenSl (.tmp 27))⟩,
               ⟨(some 29), none, .op (.bin .lss (.tmp 26) (.tmp 28))⟩,
               ⟨(some 30), none, .op (.move (.tmp 29))⟩,
               ⟨(some 31), some (30, true), .op (.move (.tmp 7))⟩,
               ⟨(some 32), some (30, true), .op (.bin .lss (.tmp 31) (.const (.int .i64 200)))⟩,
               ⟨(some 33), none, .op (.pick (.tmp 30) (.tmp 32) (.const (.bool false)))⟩])
             (.cond (.tmp 33)
              (.skip)
              (.exit 0)))
            (.seq
             (.block 1
              (.seq
               (.region [⟨(some 36), none, .op (.move (.tmp 0))⟩,
                 ⟨(some 37), none, .op (.move (.tmp 7))⟩,
                 ⟨(some 38), none, .op (.idxSl 5 (.tmp 36) (.tmp 37))⟩,
                 ⟨(some 39), none, .op (.load (some 5) (.tmp 38))⟩,
                 ⟨(some 8), none, .op (.alloc 36 (.one (.int .i64 0) (.one (.int .i64 0) (.one (.int .i64 0) (.one (.int .i64 0) (.one (.str ⟨#[]⟩) .nil))))))⟩,
                 ⟨none, none, .op (.store 5 (.tmp 8) (.tmp 39))⟩])
               (.seq
                (.seq
                 (.region [⟨(some 40), none, .op (.field 0 (.tmp 8))⟩,
                   ⟨(some 41), none, .op (.load none (.tmp 40))⟩])
                 (.block 2
                  (.seq
                   (.region [⟨(some 43), none, .op (.bin .eql (.tmp 41) (.const (.int .i64 1)))⟩,
                     ⟨(some 42), none, .op (.move (.tmp 43))⟩])
                   (.cond (.tmp 42)
                    (.seq
                     (.region [⟨(some 44), none, .op (.move (.tmp 4))⟩,
                       ⟨(some 45), none, .op (.field 2 (.tmp 8))⟩,
                       ⟨(some 46), none, .op (.load (some 3) (.tmp 45))⟩,
                       ⟨(some 47), none, .call 12 [(.tmp 44), (.tmp 46)]⟩,
                       ⟨(some 9), none, .op (.move (.tmp 47))⟩])
                     (.seq
                      (.region [⟨(some 48), none, .op (.move (.tmp 9))⟩,
                        ⟨(some 49), none, .op (.bin .eql (.tmp 48) (.const (.int .i64 0)))⟩])
                      (.cond (.tmp 49)
                       (.region [⟨(some 50), none, .op (.move (.tmp 6))⟩,
                         ⟨(some 51), none, .op (.field 2 (.tmp 8))⟩,
                         ⟨(some 52), none, .op (.load (some 3) (.tmp 51))⟩,
                         ⟨(some 53), none, .op (.bsl 3 1 34 (.one (.int .i64 0) (.one (.int .i64 0) (.one (.str ⟨#[]⟩) .nil))) [(0, (.tmp 52))])⟩,
                         ⟨(some 54), none, .op (.app 3 32 34 (.tmp 50) (.tmp 53))⟩,
                         ⟨(some 6), none, .op (.move (.tmp 54))⟩])
                       (.skip))))
                    (.seq
                     (.region [⟨(some 56), none, .op (.bin .eql (.tmp 41) (.const (.int .i64 2)))⟩,
                       ⟨(some 55), none, .op (.move (.tmp 56))⟩])
                     (.cond (.tmp 55)
                      (.seq
                       (.region [⟨(some 58), none, .op (.move (.tmp 4))⟩,
                         ⟨(some 59), none, .op (.field 1 (.tmp 8))⟩,
                         ⟨(some 60), none, .op (.load none (.tmp 59))⟩,
                         ⟨(some 61), none, .call 13 [(.tmp 58), (.tmp 60)]⟩,
                         ⟨(some 57), none, .op (.move (.tmp 61))⟩,
                         ⟨(some 62), none, .op (.ext 0 (.tmp 57))⟩,
                         ⟨(some 63), none, .op (.ext 1 (.tmp 57))⟩,
                         ⟨(some 10), none, .op (.alloc 34 (.one (.int .i64 0) (.one (.int .i64 0) (.one (.str ⟨#[]⟩) .nil))))⟩,
                         ⟨none, none, .op (.store 3 (.tmp 10) (.tmp 62))⟩,
                         ⟨(some 11), none, .op (.move (.tmp 63))⟩])
                       (.seq
                        (.region [⟨(some 12), none, .op (.move (.const (.bool false)))⟩])
                        (.seq
                         (.seq
                          (.region [⟨(some 13), none, .op (.move (.const (.int .i64 0)))⟩])
                          (.block 3
                           (.loop
                            (.seq
                             (.seq
                              (.region [⟨(some 64), none, .op (.move (.tmp 13))⟩,
                                ⟨(some 65), none, .op (.move (.tmp 6))⟩,
                                ⟨(some 66), none, .op (.lenSl (.tmp 65))⟩,
                                ⟨(some 67), none, .op (.bin .lss (.tmp 64) (.tmp 66))⟩])
                              (.cond (.tmp 67)
                               (.skip)
                               (.exit 3)))
                             (.seq
                              (.block 4
                               (.draws [(0, [], ⟨(some 70), none, .op (.move (.tmp 12))⟩),
                                 (1, [], ⟨(some 71), none, .op (.move (.tmp 70))⟩),
                                 (2, [], ⟨(some 72), some (71, false), .op (.move (.tmp 6))⟩),
                                 (3, [2], ⟨(some 73), some (71, false), .op (.move (.tmp 13))⟩),
                                 (4, [], ⟨(some 74), some (71, false), .op (.idxSl 3 (.tmp 72) (.tmp 73))⟩),
                                 (5, [], ⟨(some 75), some (71, false), .op (.load (some 3) (.tmp 74))⟩),
                                 (6, [2, 3, 4, 5], ⟨(some 76), some (71, false), .op (.load (some 3) (.tmp 10))⟩),
                                 (7, [], ⟨(some 77), some (71, false), .op (.st false [(0, 0), (1, 0), (2, 1)] (.tmp 75) (.tmp 76))⟩),
                                 (8, [], ⟨(some 78), none, .op (.pick (.tmp 71) (.const (.bool true)) (.tmp 77))⟩),
                                 (9, [], ⟨(some 12), none, .op (.move (.tmp 78))⟩)]))
                              (.region [⟨(some 68), none, .op (.move (.tmp 13))⟩,
                                ⟨(some 69), none, .op (.bin .add (.tmp 68) (.const (.int .i64 1)))⟩,
                                ⟨(some 13), none, .op (.move (.tmp 69))⟩]))))))
                         (.seq
                          (.region [⟨(some 79), none, .op (.move (.tmp 11))⟩,
                            ⟨(some 80), none, .op (.move (.tmp 79))⟩,
                            ⟨(some 81), some (80, true), .op (.move (.tmp 12))⟩,
                            ⟨(some 82), some (80, true), .op (.un .not (.tmp 81))⟩,
                            ⟨(some 83), none, .op (.pick (.tmp 80) (.tmp 82) (.const (.bool false)))⟩])
                          (.cond (.tmp 83)
                           (.seq
                            (.region [⟨(some 2), none, .op (.move (.const (.bool false)))⟩])
                            (.ret))
                           (.skip))))))
                      (.seq
                       (.region [⟨(some 85), none, .op (.bin .eql (.tmp 41) (.const (.int .i64 3)))⟩,
                         ⟨(some 84), none, .op (.move (.tmp 85))⟩])
                       (.cond (.tmp 84)
                        (.region [⟨(some 86), none, .op (.move (.tmp 4))⟩,
                          ⟨(some 87), none, .op (.field 1 (.tmp 8))⟩,
                          ⟨(some 88), none, .op (.load none (.tmp 87))⟩,
                          ⟨(some 89), none, .call 14 [(.tmp 86), (.tmp 88)]⟩])
                        (.seq
                         (.region [⟨(some 91), none, .op (.bin .eql (.tmp 41) (.const (.int .i64 4)))⟩,
                           ⟨(some 90), none, .op (.move (.tmp 91))⟩])
                         (.cond (.tmp 90)
                          (.region [⟨(some 92), none, .op (.move (.tmp 4))⟩,
                            ⟨(some 93), none, .op (.field 1 (.tmp 8))⟩,
                            ⟨(some 94), none, .op (.load none (.tmp 93))⟩,
                            ⟨(some 95), none, .call 15 [(.tmp 92), (.tmp 94)]⟩])
                          (.skip)))))))))))
                (.seq
                 (.region [⟨(some 97), none, .op (.move (.tmp 4))⟩,
                   ⟨(some 98), none, .call 11 [(.tmp 97)]⟩,
                   ⟨(some 96), none, .op (.move (.tmp 98))⟩,
                   ⟨(some 99), none, .op (.ext 0 (.tmp 96))⟩,
                   ⟨(some 100), none, .op (.ext 1 (.tmp 96))⟩,
                   ⟨(some 101), none, .op (.ext 2 (.tmp 96))⟩,
                   ⟨(some 102), none, .op (.ext 3 (.tmp 96))⟩,
                   ⟨(some 14), none, .op (.move (.tmp 99))⟩,
                   ⟨(some 15), none, .op (.move (.tmp 100))⟩,
                   ⟨(some 16), none, .op (.move (.tmp 101))⟩,
                   ⟨(some 17), none, .op (.move (.tmp 102))⟩])
                 (.seq
                  (.region [⟨(some 103), none, .op (.move (.tmp 4))⟩,
                    ⟨(some 104), none, .call 10 [(.tmp 103)]⟩,
                    ⟨(some 18), none, .op (.move (.tmp 104))⟩])
                  (.seq
                   (.region [⟨(some 105), none, .op (.move (.tmp 14))⟩,
                     ⟨(some 106), none, .op (.move (.tmp 6))⟩,
                     ⟨(some 107), none, .op (.lenSl (.tmp 106))⟩,
                     ⟨(some 108), none, .op (.bin .neq (.tmp 105) (.tmp 107))⟩,
                     ⟨(some 109), none, .op (.move (.tmp 108))⟩,
                     ⟨(some 110), some (109, false), .op (.move (.tmp 14))⟩,
                     ⟨(some 111), some (109, false), .op (.move (.tmp 15))⟩,
                     ⟨(some 112), some (109, false), .op (.bin .add (.tmp 110) (.tmp 111))⟩,
                     ⟨(some 113), some (109, false), .op (.move (.tmp 16))⟩,
                     ⟨(some 114), some (109, false), .op (.move (.tmp 17))⟩,
                     ⟨(some 115), some (109, false), .op (.bin .add (.tmp 113) (.tmp 114))⟩,
                     ⟨(some 116), some (109, false), .op (.move (.tmp 18))⟩,
                     ⟨(some 117), some (109, false), .op (.lenSl (.tmp 116))⟩,
                     ⟨(some 118), some (109, false), .op (.bin .add (.tmp 115) (.tmp 117))⟩,
                     ⟨(some 119), some (109, false), .op (.bin .neq (.tmp 112) (.tmp 118))⟩,
                     ⟨(some 120), none, .op (.pick (.tmp 109) (.const (.bool true)) (.tmp 119))⟩,
                     ⟨(some 121), none, .op (.move (.tmp 120))⟩,
                     ⟨(some 122), some (121, false), .op (.move (.tmp 18))⟩,
                     ⟨(some 123), some (121, false), .op (.lenSl (.tmp 122))⟩,
                     ⟨(some 124), some (121, false), .op (.bin .gtr (.tmp 123) (.const (.int .i64 100)))⟩,
                     ⟨(some 125), none, .op (.pick (.tmp 121) (.const (.bool true)) (.tmp 124))⟩])
                   (.cond (.tmp 125)
                    (.seq
                     (.region [⟨(some 2), none, .op (.move (.const (.bool false)))⟩])
                     (.ret))
                    (.skip))))))))
             (.region [⟨(some 34), none, .op (.move (.tmp 7))⟩,
               ⟨(some 35), none, .op (.bin .add (.tmp 34) (.const (.int .i64 1)))⟩,
               ⟨(some 7), none, .op (.move (.tmp 35))⟩]))))))
        (.seq
         (.region [⟨(some 126), none, .op (.move (.tmp 3))⟩,
           ⟨(some 2), none, .op (.move (.tmp 126))⟩])
         (.ret)))))))
def r4 : List LRes := [.tmp 2]
theorem body4 : Try.f4.body.bind (compileC Try.prog) = some c4 := by kernel_rfl
theorem res4 : compileRes Try.prog Try.f4.results.toList = some r4 := by kernel_rfl
theorem has4 : hasBody Try.prog 4 = true := by kernel_rfl
theorem enter4 {args : LVals} {h : LHeap} {R : LEnd → LHeap → Prop} (hk : 127 - lvsLen args = 126) (hw : initK args 126 fun t => lwp Try.prog h.length c4 (bodyQ r4 R) t h) : LCalls Try.prog 4 args h R := LCalls.enter Try.func4 body4 has4 res4 _ (by rw [Try.ntmps4]; exact hk) hw
/-- palatine/palatinelaw20.NetOwn -/
def c5 : LCode :=
  .seq
   (.region [⟨(some 2), none, .op (.move (.const (.bool false)))⟩])
   (.seq
    (.region [⟨(some 12), none, .call 7 []⟩,
      ⟨(some 3), none, .op (.move (.tmp 12))⟩])
    (.seq
     (.region [⟨(some 14), none, .call 8 [(.const (.int .i64 3))]⟩,
       ⟨(some 13), none, .op (.move (.tmp 14))⟩,
       ⟨(some 15), none, .op (.ext 0 (.tmp 13))⟩,
       ⟨(some 16), none, .op (.ext 1 (.tmp 13))⟩,
       ⟨(some 4), none, .op (.move (.tmp 15))⟩,
       ⟨(some 5), none, .op (.move (.tmp 16))⟩])
     (.seq
      (.seq
       (.region [⟨(some 17), none, .op (.move (.tmp 4))⟩,
         ⟨(some 18), none, .op (.peq false (.tmp 17) (.const .nilp))⟩])
       (.cond (.tmp 18)
        (.seq
         (.region [⟨(some 2), none, .op (.move (.const (.bool false)))⟩])
         (.ret))
        (.skip)))
      (.seq
       (.seq
        (.region [⟨(some 6), none, .op (.move (.const (.int .i64 0)))⟩])
        (.block 0
         (.loop
          (.seq
           (.seq
            (.region [⟨(some 19), none, .op (.move (.tmp 6))⟩,
              ⟨(some 20), none, .op (.move (.tmp 0))⟩,
              ⟨(some 21), none, .op (.lenSl (.tmp 20))⟩,
              ⟨(some 22), none, .op (.bin .lss (.tmp 19) (.tmp 21))⟩,
              ⟨(some 23), none, .op (.move (.tmp 22))⟩,
              ⟨(some 24), some (23, true), .op (.move (.tmp 6))⟩,
              ⟨(some 25), some (23, true), .op (.bin .lss (.tmp 24) (.const (.int .i64 50)))⟩,
              ⟨(some 26), none, .op (.pick (.tmp 23) (.tmp 25) (.const (.bool false)))⟩])
            (.cond (.tmp 26)
             (.skip)
             (.exit 0)))
           (.seq
            (.block 1
             (.region [⟨(some 29), none, .op (.move (.tmp 4))⟩,
               ⟨(some 30), none, .op (.move (.tmp 0))⟩,
               ⟨(some 31), none, .op (.move (.tmp 6))⟩,
               ⟨(some 32), none, .op (.idxSl 3 (.tmp 30) (.tmp 31))⟩,
               ⟨(some 33), none, .op (.load (some 3) (.tmp 32))⟩,
               ⟨(some 34), none, .call 12 [(.tmp 29), (.tmp 33)]⟩]))
            (.region [⟨(some 27), none, .op (.move (.tmp 6))⟩,
              ⟨(some 28), none, .op (.bin .add (.tmp 27) (.const (.int .i64 1)))⟩,
              ⟨(some 6), none, .op (.move (.tmp 28))⟩]))))))
       (.seq
        (.region [⟨(some 35), none, .op (.move (.tmp 4))⟩,
          ⟨(some 36), none, .call 10 [(.tmp 35)]⟩,
          ⟨(some 7), none, .op (.move (.tmp 36))⟩])
        (.seq
         (.region [⟨(some 37), none, .op (.move (.tmp 4))⟩,
           ⟨(some 38), none, .call 10 [(.tmp 37)]⟩,
           ⟨(some 8), none, .op (.move (.tmp 38))⟩])
         (.seq
          (.seq
           (.region [⟨(some 9), none, .op (.move (.const (.int .i64 0)))⟩])
           (.block 2
            (.loop
             (.seq
              (.seq
               (.region [⟨(some 39), none, .op (.move (.tmp 9))⟩,
                 ⟨(some 40), none, .op (.move (.tmp 7))⟩,
                 ⟨(some 41), none, .op (.lenSl (.tmp 40))⟩,
                 ⟨(some 42), none, .op (.bin .lss (.tmp 39) (.tmp 41))⟩])
               (.cond (.tmp 42)
                (.skip)
                (.exit 2)))
              (.seq
               (.block 3
                (.region [⟨(some 45), none, .op (.move (.tmp 7))⟩,
                  ⟨(some 46), none, .op (.move (.tmp 9))⟩,
                  ⟨(some 47), none, .op (.idxSl 3 (.tmp 45) (.tmp 46))⟩,
                  ⟨(some 48), none, .op (.field 2 (.tmp 47))⟩,
                  ⟨none, none, .op (.store 1 (.tmp 48) (.const (.str ⟨#[116, 117, 114, 110, 101, 100]⟩)))⟩]))
               (.region [⟨(some 43), none, .op (.move (.tmp 9))⟩,
                 ⟨(some 44), none, .op (.bin .add (.tmp 43) (.const (.int .i64 1)))⟩,
                 ⟨(some 9), none, .op (.move (.tmp 44))⟩]))))))
          (.seq
           (.region [⟨(some 49), none, .op (.move (.tmp 4))⟩,
             ⟨(some 50), none, .call 10 [(.tmp 49)]⟩,
             ⟨(some 10), none, .op (.move (.tmp 50))⟩])
           (.seq
            (.seq
             (.region [⟨(some 51), none, .op (.move (.tmp 8))⟩,
               ⟨(some 52), none, .op (.lenSl (.tmp 51))⟩,
               ⟨(some 53), none, .op (.move (.tmp 10))⟩,
               ⟨(some 54), none, .op (.lenSl (.tmp 53))⟩,
               ⟨(some 55), none, .op (.bin .neq (.tmp 52) (.tmp 54))⟩])
             (.cond (.tmp 55)
              (.seq
               (.region [⟨(some 2), none, .op (.move (.const (.bool false)))⟩])
               (.ret))
              (.skip)))
            (.seq
             (.seq
              (.region [⟨(some 11), none, .op (.move (.const (.int .i64 0)))⟩])
              (.block 4
               (.loop
                (.seq
                 (.seq
                  (.region [⟨(some 56), none, .op (.move (.tmp 11))⟩,
                    ⟨(some 57), none, .op (.move (.tmp 8))⟩,
                    ⟨(some 58), none, .op (.lenSl (.tmp 57))⟩,
                    ⟨(some 59), none, .op (.bin .lss (.tmp 56) (.tmp 58))⟩])
                  (.cond (.tmp 59)
                   (.skip)
                   (.exit 4)))
                 (.seq
                  (.block 5
                   (.seq
                    (.draws [(0, [], ⟨(some 62), none, .op (.move (.tmp 8))⟩),
                      (1, [0], ⟨(some 63), none, .op (.move (.tmp 11))⟩),
                      (2, [], ⟨(some 64), none, .op (.idxSl 3 (.tmp 62) (.tmp 63))⟩),
                      (3, [], ⟨(some 65), none, .op (.load (some 3) (.tmp 64))⟩),
                      (4, [0, 1, 2, 3], ⟨(some 66), none, .op (.move (.tmp 10))⟩),
                      (5, [0, 1, 2, 3, 4], ⟨(some 67), none, .op (.move (.tmp 11))⟩),
                      (6, [0, 1, 2, 3], ⟨(some 68), none, .op (.idxSl 3 (.tmp 66) (.tmp 67))⟩),
                      (7, [0, 1, 2, 3], ⟨(some 69), none, .op (.load (some 3) (.tmp 68))⟩),
                      (8, [], ⟨(some 70), none, .op (.st true [(0, 0), (1, 0), (2, 1)] (.tmp 65) (.tmp 69))⟩)])
                    (.cond (.tmp 70)
                     (.seq
                      (.region [⟨(some 2), none, .op (.move (.const (.bool false)))⟩])
                      (.ret))
                     (.skip))))
                  (.region [⟨(some 60), none, .op (.move (.tmp 11))⟩,
                    ⟨(some 61), none, .op (.bin .add (.tmp 60) (.const (.int .i64 1)))⟩,
                    ⟨(some 11), none, .op (.move (.tmp 61))⟩]))))))
             (.seq
              (.region [⟨(some 71), none, .op (.move (.tmp 3))⟩,
                ⟨(some 2), none, .op (.move (.tmp 71))⟩])
              (.ret))))))))))))
def r5 : List LRes := [.tmp 2]
theorem body5 : Try.f5.body.bind (compileC Try.prog) = some c5 := by kernel_rfl
theorem res5 : compileRes Try.prog Try.f5.results.toList = some r5 := by kernel_rfl
theorem has5 : hasBody Try.prog 5 = true := by kernel_rfl
theorem enter5 {args : LVals} {h : LHeap} {R : LEnd → LHeap → Prop} (hk : 72 - lvsLen args = 71) (hw : initK args 71 fun t => lwp Try.prog h.length c5 (bodyQ r5 R) t h) : LCalls Try.prog 5 args h R := LCalls.enter Try.func5 body5 has5 res5 _ (by rw [Try.ntmps5]; exact hk) hw
/-- palatine/palatinelaw20.NetAll -/
def c6 : LCode :=
  .seq
   (.region [⟨(some 2), none, .op (.move (.const (.bool false)))⟩])
   (.seq
    (.region [⟨(some 14), none, .call 7 []⟩,
      ⟨(some 3), none, .op (.move (.tmp 14))⟩])
    (.seq
     (.region [⟨(some 16), none, .call 8 [(.const (.int .i64 8))]⟩,
       ⟨(some 15), none, .op (.move (.tmp 16))⟩,
       ⟨(some 17), none, .op (.ext 0 (.tmp 15))⟩,
       ⟨(some 18), none, .op (.ext 1 (.tmp 15))⟩,
       ⟨(some 4), none, .op (.move (.tmp 17))⟩,
       ⟨(some 5), none, .op (.move (.tmp 18))⟩])
     (.seq
      (.seq
       (.region [⟨(some 19), none, .op (.move (.tmp 4))⟩,
         ⟨(some 20), none, .op (.peq false (.tmp 19) (.const .nilp))⟩])
       (.cond (.tmp 20)
        (.seq
         (.region [⟨(some 2), none, .op (.move (.const (.bool false)))⟩])
         (.ret))
        (.skip)))
      (.seq
       (.region [⟨(some 6), none, .op (.move (.const (.slice ⟨0, [], 0⟩ 0 0 0 0 (some 0))))⟩])
       (.seq
        (.seq
         (.region [⟨(some 7), none, .op (.move (.const (.int .i64 0)))⟩])
         (.block 0
          (.loop
           (.seq
            (.seq
             (.region [⟨(some 21), none, .op (.move (.tmp 7))⟩,
               ⟨(some 22), none, .op (.move (.tmp 0))⟩,
               ⟨(some 23), none, .op (.lenSl (.tmp 22))⟩,
               ⟨(some 24), none, .op (.bin .lss (.tmp 21) (.tmp 23))⟩,
               ⟨(some 25), none, .op (.move (.tmp 24))⟩,
               ⟨(some 26), some (25, true), .op (.move (.tmp 7))⟩,
               ⟨(some 27), some (25, true), .op (.bin .lss (.tmp 26) (.const (.int .i64 90)))⟩,
               ⟨(some 28), none, .op (.pick (.tmp 25) (.tmp 27) (.const (.bool false)))⟩])
             (.cond (.tmp 28)
              (.skip)
              (.exit 0)))
            (.seq
             (.block 1
              (.seq
               (.region [⟨(some 31), none, .op (.move (.tmp 4))⟩,
                 ⟨(some 32), none, .op (.move (.tmp 0))⟩,
                 ⟨(some 33), none, .op (.move (.tmp 7))⟩,
                 ⟨(some 34), none, .op (.idxSl 3 (.tmp 32) (.tmp 33))⟩,
                 ⟨(some 35), none, .op (.load (some 3) (.tmp 34))⟩,
                 ⟨(some 36), none, .call 12 [(.tmp 31), (.tmp 35)]⟩,
                 ⟨(some 8), none, .op (.move (.tmp 36))⟩])
               (.seq
                (.region [⟨(some 37), none, .op (.move (.tmp 8))⟩,
                  ⟨(some 38), none, .op (.bin .eql (.tmp 37) (.const (.int .i64 0)))⟩])
                (.cond (.tmp 38)
                 (.region [⟨(some 39), none, .op (.move (.tmp 6))⟩,
                   ⟨(some 40), none, .op (.move (.tmp 0))⟩,
                   ⟨(some 41), none, .op (.move (.tmp 7))⟩,
                   ⟨(some 42), none, .op (.idxSl 3 (.tmp 40) (.tmp 41))⟩,
                   ⟨(some 43), none, .op (.load (some 3) (.tmp 42))⟩,
                   ⟨(some 44), none, .op (.bsl 3 1 34 (.one (.int .i64 0) (.one (.int .i64 0) (.one (.str ⟨#[]⟩) .nil))) [(0, (.tmp 43))])⟩,
                   ⟨(some 45), none, .op (.app 3 32 34 (.tmp 39) (.tmp 44))⟩,
                   ⟨(some 6), none, .op (.move (.tmp 45))⟩])
                 (.skip)))))
             (.region [⟨(some 29), none, .op (.move (.tmp 7))⟩,
               ⟨(some 30), none, .op (.bin .add (.tmp 29) (.const (.int .i64 1)))⟩,
               ⟨(some 7), none, .op (.move (.tmp 30))⟩]))))))
        (.seq
         (.seq
          (.region [⟨(some 9), none, .op (.move (.const (.int .i64 0)))⟩])
          (.block 2
           (.loop
            (.seq
             (.seq
              (.region [⟨(some 46), none, .op (.move (.tmp 9))⟩,
                ⟨(some 47), none, .op (.move (.tmp 6))⟩,
                ⟨(some 48), none, .op (.lenSl (.tmp 47))⟩,
                ⟨(some 49), none, .op (.bin .lss (.tmp 46) (.tmp 48))⟩])
              (.cond (.tmp 49)
               (.skip)
               (.exit 2)))
             (.seq
              (.block 3
               (.seq
                (.region [⟨(some 53), none, .op (.move (.tmp 4))⟩,
                  ⟨(some 54), none, .call 13 [(.tmp 53), (.const (.int .i64 0))]⟩,
                  ⟨(some 52), none, .op (.move (.tmp 54))⟩,
                  ⟨(some 55), none, .op (.ext 0 (.tmp 52))⟩,
                  ⟨(some 56), none, .op (.ext 1 (.tmp 52))⟩,
                  ⟨(some 10), none, .op (.alloc 34 (.one (.int .i64 0) (.one (.int .i64 0) (.one (.str ⟨#[]⟩) .nil))))⟩,
                  ⟨none, none, .op (.store 3 (.tmp 10) (.tmp 55))⟩,
                  ⟨(some 11), none, .op (.move (.tmp 56))⟩])
                (.seq
                 (.draws [(0, [], ⟨(some 57), none, .op (.move (.tmp 11))⟩),
                   (1, [], ⟨(some 58), none, .op (.un .not (.tmp 57))⟩),
                   (2, [], ⟨(some 59), none, .op (.move (.tmp 58))⟩),
                   (3, [], ⟨(some 60), some (59, false), .op (.load (some 3) (.tmp 10))⟩),
                   (4, [3], ⟨(some 61), some (59, false), .op (.move (.tmp 6))⟩),
                   (5, [3, 4], ⟨(some 62), some (59, false), .op (.move (.tmp 9))⟩),
                   (6, [3], ⟨(some 63), some (59, false), .op (.idxSl 3 (.tmp 61) (.tmp 62))⟩),
                   (7, [3], ⟨(some 64), some (59, false), .op (.load (some 3) (.tmp 63))⟩),
                   (8, [], ⟨(some 65), some (59, false), .op (.st true [(0, 0), (1, 0), (2, 1)] (.tmp 60) (.tmp 64))⟩),
                   (9, [], ⟨(some 66), none, .op (.pick (.tmp 59) (.const (.bool true)) (.tmp 65))⟩)])
                 (.cond (.tmp 66)
                  (.seq
                   (.region [⟨(some 2), none, .op (.move (.const (.bool false)))⟩])
                   (.ret))
                  (.skip)))))
              (.region [⟨(some 50), none, .op (.move (.tmp 9))⟩,
                ⟨(some 51), none, .op (.bin .add (.tmp 50) (.const (.int .i64 1)))⟩,
                ⟨(some 9), none, .op (.move (.tmp 51))⟩]))))))
         (.seq
          (.region [⟨(some 68), none, .op (.move (.tmp 4))⟩,
            ⟨(some 69), none, .call 13 [(.tmp 68), (.const (.int .i64 0))]⟩,
            ⟨(some 67), none, .op (.move (.tmp 69))⟩,
            ⟨(some 70), none, .op (.ext 0 (.tmp 67))⟩,
            ⟨(some 71), none, .op (.ext 1 (.tmp 67))⟩,
            ⟨(some 12), none, .op (.alloc 34 (.one (.int .i64 0) (.one (.int .i64 0) (.one (.str ⟨#[]⟩) .nil))))⟩,
            ⟨none, none, .op (.store 3 (.tmp 12) (.tmp 70))⟩,
            ⟨(some 13), none, .op (.move (.tmp 71))⟩])
          (.seq
           (.region [⟨(some 72), none, .op (.move (.tmp 3))⟩,
             ⟨(some 73), none, .op (.move (.tmp 72))⟩,
             ⟨(some 74), some (73, true), .op (.move (.tmp 13))⟩,
             ⟨(some 75), some (73, true), .op (.un .not (.tmp 74))⟩,
             ⟨(some 76), none, .op (.pick (.tmp 73) (.tmp 75) (.const (.bool false)))⟩,
             ⟨(some 2), none, .op (.move (.tmp 76))⟩])
           (.ret)))))))))
def r6 : List LRes := [.tmp 2]
theorem body6 : Try.f6.body.bind (compileC Try.prog) = some c6 := by kernel_rfl
theorem res6 : compileRes Try.prog Try.f6.results.toList = some r6 := by kernel_rfl
theorem has6 : hasBody Try.prog 6 = true := by kernel_rfl
theorem enter6 {args : LVals} {h : LHeap} {R : LEnd → LHeap → Prop} (hk : 77 - lvsLen args = 76) (hw : initK args 76 fun t => lwp Try.prog h.length c6 (bodyQ r6 R) t h) : LCalls Try.prog 6 args h R := LCalls.enter Try.func6 body6 has6 res6 _ (by rw [Try.ntmps6]; exact hk) hw
/-- palatine/palatinelaw20.awake -/
def c7 : LCode :=
  .seq
   (.region [⟨(some 0), none, .op (.move (.const (.bool false)))⟩])
   (.seq
    (.region [⟨(some 20), none, .call 8 [(.const (.int .i64 2))]⟩,
      ⟨(some 19), none, .op (.move (.tmp 20))⟩,
      ⟨(some 21), none, .op (.ext 0 (.tmp 19))⟩,
      ⟨(some 22), none, .op (.ext 1 (.tmp 19))⟩,
      ⟨(some 1), none, .op (.move (.tmp 21))⟩,
      ⟨(some 2), none, .op (.move (.tmp 22))⟩])
    (.seq
     (.seq
      (.region [⟨(some 23), none, .op (.move (.tmp 1))⟩,
        ⟨(some 24), none, .op (.peq false (.tmp 23) (.const .nilp))⟩,
        ⟨(some 25), none, .op (.move (.tmp 24))⟩,
        ⟨(some 26), some (25, false), .op (.move (.tmp 2))⟩,
        ⟨(some 27), some (25, false), .op (.bin .neq (.tmp 26) (.const (.int .i64 0)))⟩,
        ⟨(some 28), none, .op (.pick (.tmp 25) (.const (.bool true)) (.tmp 27))⟩])
      (.cond (.tmp 28)
       (.seq
        (.region [⟨(some 0), none, .op (.move (.const (.bool false)))⟩])
        (.ret))
       (.skip)))
     (.seq
      (.region [⟨(some 29), none, .op (.move (.tmp 1))⟩,
        ⟨(some 30), none, .op (.bst (.one (.int .i64 0) (.one (.int .i64 0) (.one (.str ⟨#[]⟩) .nil))) [(0, 1, (.const (.int .i64 0))), (1, 1, (.const (.int .i64 1))), (2, 1, (.const (.str ⟨#[97]⟩)))])⟩,
        ⟨(some 31), none, .call 12 [(.tmp 29), (.tmp 30)]⟩,
        ⟨(some 3), none, .op (.move (.tmp 31))⟩])
      (.seq
       (.region [⟨(some 32), none, .op (.move (.tmp 1))⟩,
         ⟨(some 33), none, .op (.bst (.one (.int .i64 0) (.one (.int .i64 0) (.one (.str ⟨#[]⟩) .nil))) [(0, 1, (.const (.int .i64 1))), (1, 1, (.const (.int .i64 0))), (2, 1, (.const (.str ⟨#[98]⟩)))])⟩,
         ⟨(some 34), none, .call 12 [(.tmp 32), (.tmp 33)]⟩,
         ⟨(some 4), none, .op (.move (.tmp 34))⟩])
       (.seq
        (.region [⟨(some 35), none, .op (.move (.tmp 1))⟩,
          ⟨(some 36), none, .call 15 [(.tmp 35), (.const (.int .i64 0))]⟩,
          ⟨(some 5), none, .op (.move (.tmp 36))⟩])
        (.seq
         (.region [⟨(some 37), none, .op (.move (.tmp 1))⟩,
           ⟨(some 38), none, .call 10 [(.tmp 37)]⟩,
           ⟨(some 6), none, .op (.move (.tmp 38))⟩])
         (.seq
          (.region [⟨(some 40), none, .op (.move (.tmp 1))⟩,
            ⟨(some 41), none, .call 13 [(.tmp 40), (.const (.int .i64 1))]⟩,
            ⟨(some 39), none, .op (.move (.tmp 41))⟩,
            ⟨(some 42), none, .op (.ext 0 (.tmp 39))⟩,
            ⟨(some 43), none, .op (.ext 1 (.tmp 39))⟩,
            ⟨(some 7), none, .op (.alloc 34 (.one (.int .i64 0) (.one (.int .i64 0) (.one (.str ⟨#[]⟩) .nil))))⟩,
            ⟨none, none, .op (.store 3 (.tmp 7) (.tmp 42))⟩,
            ⟨(some 8), none, .op (.move (.tmp 43))⟩])
          (.seq
           (.region [⟨(some 44), none, .op (.move (.tmp 1))⟩,
             ⟨(some 45), none, .call 14 [(.tmp 44), (.const (.int .i64 0))]⟩,
             ⟨(some 9), none, .op (.move (.tmp 45))⟩])
           (.seq
            (.region [⟨(some 47), none, .op (.move (.tmp 1))⟩,
              ⟨(some 48), none, .call 13 [(.tmp 47), (.const (.int .i64 0))]⟩,
              ⟨(some 46), none, .op (.move (.tmp 48))⟩,
              ⟨(some 49), none, .op (.ext 0 (.tmp 46))⟩,
              ⟨(some 50), none, .op (.ext 1 (.tmp 46))⟩,
              ⟨(some 10), none, .op (.alloc 34 (.one (.int .i64 0) (.one (.int .i64 0) (.one (.str ⟨#[]⟩) .nil))))⟩,
              ⟨none, none, .op (.store 3 (.tmp 10) (.tmp 49))⟩,
              ⟨(some 11), none, .op (.move (.tmp 50))⟩])
            (.seq
             (.region [⟨(some 52), none, .op (.move (.tmp 1))⟩,
               ⟨(some 53), none, .call 13 [(.tmp 52), (.const (.int .i64 0))]⟩,
               ⟨(some 51), none, .op (.move (.tmp 53))⟩,
               ⟨(some 54), none, .op (.ext 0 (.tmp 51))⟩,
               ⟨(some 55), none, .op (.ext 1 (.tmp 51))⟩,
               ⟨(some 12), none, .op (.alloc 34 (.one (.int .i64 0) (.one (.int .i64 0) (.one (.str ⟨#[]⟩) .nil))))⟩,
               ⟨none, none, .op (.store 3 (.tmp 12) (.tmp 54))⟩,
               ⟨(some 13), none, .op (.move (.tmp 55))⟩])
             (.seq
              (.region [⟨(some 56), none, .op (.move (.tmp 1))⟩,
                ⟨(some 57), none, .op (.bst (.one (.int .i64 0) (.one (.int .i64 0) (.one (.str ⟨#[]⟩) .nil))) [])⟩,
                ⟨(some 58), none, .call 12 [(.tmp 56), (.tmp 57)]⟩,
                ⟨(some 14), none, .op (.move (.tmp 58))⟩])
              (.seq
               (.region [⟨(some 60), none, .op (.move (.tmp 1))⟩,
                 ⟨(some 61), none, .call 11 [(.tmp 60)]⟩,
                 ⟨(some 59), none, .op (.move (.tmp 61))⟩,
                 ⟨(some 62), none, .op (.ext 0 (.tmp 59))⟩,
                 ⟨(some 63), none, .op (.ext 1 (.tmp 59))⟩,
                 ⟨(some 64), none, .op (.ext 2 (.tmp 59))⟩,
                 ⟨(some 65), none, .op (.ext 3 (.tmp 59))⟩,
                 ⟨(some 15), none, .op (.move (.tmp 62))⟩,
                 ⟨(some 16), none, .op (.move (.tmp 63))⟩,
                 ⟨(some 17), none, .op (.move (.tmp 64))⟩,
                 ⟨(some 18), none, .op (.move (.tmp 65))⟩])
               (.seq
                (.region [⟨(some 66), none, .op (.move (.tmp 3))⟩,
                  ⟨(some 67), none, .op (.bin .eql (.tmp 66) (.const (.int .i64 0)))⟩,
                  ⟨(some 68), none, .op (.move (.tmp 67))⟩,
                  ⟨(some 69), some (68, true), .op (.move (.tmp 4))⟩,
                  ⟨(some 70), some (68, true), .op (.bin .eql (.tmp 69) (.const (.int .i64 0)))⟩,
                  ⟨(some 71), none, .op (.pick (.tmp 68) (.tmp 70) (.const (.bool false)))⟩,
                  ⟨(some 72), none, .op (.move (.tmp 71))⟩,
                  ⟨(some 73), some (72, true), .op (.move (.tmp 5))⟩,
                  ⟨(some 74), some (72, true), .op (.bin .eql (.tmp 73) (.const (.int .i64 0)))⟩,
                  ⟨(some 75), none, .op (.pick (.tmp 72) (.tmp 74) (.const (.bool false)))⟩,
                  ⟨(some 76), none, .op (.move (.tmp 75))⟩,
                  ⟨(some 77), some (76, true), .op (.move (.tmp 6))⟩,
                  ⟨(some 78), some (76, true), .op (.lenSl (.tmp 77))⟩,
                  ⟨(some 79), some (76, true), .op (.bin .eql (.tmp 78) (.const (.int .i64 3)))⟩,
                  ⟨(some 80), none, .op (.pick (.tmp 76) (.tmp 79) (.const (.bool false)))⟩,
                  ⟨(some 81), none, .op (.move (.tmp 80))⟩,
                  ⟨(some 82), some (81, true), .op (.move (.tmp 6))⟩,
                  ⟨(some 83), some (81, true), .op (.idxSl 3 (.tmp 82) (.const (.int .i64 2)))⟩,
                  ⟨(some 84), some (81, true), .op (.field 2 (.tmp 83))⟩,
                  ⟨(some 85), some (81, true), .op (.load none (.tmp 84))⟩,
                  ⟨(some 86), some (81, true), .op (.bin .eql (.tmp 85) (.const (.str ⟨#[97]⟩)))⟩,
                  ⟨(some 87), none, .op (.pick (.tmp 81) (.tmp 86) (.const (.bool false)))⟩,
                  ⟨(some 88), none, .op (.move (.tmp 87))⟩,
                  ⟨(some 89), some (88, true), .op (.move (.tmp 8))⟩,
                  ⟨(some 90), none, .op (.pick (.tmp 88) (.tmp 89) (.const (.bool false)))⟩,
                  ⟨(some 91), none, .op (.move (.tmp 90))⟩,
                  ⟨(some 92), some (91, true), .op (.field 2 (.tmp 7))⟩,
                  ⟨(some 93), some (91, true), .op (.load none (.tmp 92))⟩,
                  ⟨(some 94), some (91, true), .op (.bin .eql (.tmp 93) (.const (.str ⟨#[98]⟩)))⟩,
                  ⟨(some 95), none, .op (.pick (.tmp 91) (.tmp 94) (.const (.bool false)))⟩,
                  ⟨(some 96), none, .op (.move (.tmp 95))⟩,
                  ⟨(some 97), some (96, true), .op (.move (.tmp 9))⟩,
                  ⟨(some 98), none, .op (.pick (.tmp 96) (.tmp 97) (.const (.bool false)))⟩,
                  ⟨(some 99), none, .op (.move (.tmp 98))⟩,
                  ⟨(some 100), some (99, true), .op (.move (.tmp 11))⟩,
                  ⟨(some 101), none, .op (.pick (.tmp 99) (.tmp 100) (.const (.bool false)))⟩,
                  ⟨(some 102), none, .op (.move (.tmp 101))⟩,
                  ⟨(some 103), some (102, true), .op (.field 2 (.tmp 10))⟩,
                  ⟨(some 104), some (102, true), .op (.load none (.tmp 103))⟩,
                  ⟨(some 105), some (102, true), .op (.bin .eql (.tmp 104) (.const (.str ⟨#[97]⟩)))⟩,
                  ⟨(some 106), none, .op (.pick (.tmp 102) (.tmp 105) (.const (.bool false)))⟩,
                  ⟨(some 107), none, .op (.move (.tmp 106))⟩,
                  ⟨(some 108), some (107, true), .op (.move (.tmp 13))⟩,
                  ⟨(some 109), some (107, true), .op (.un .not (.tmp 108))⟩,
                  ⟨(some 110), none, .op (.pick (.tmp 107) (.tmp 109) (.const (.bool false)))⟩,
                  ⟨(some 111), none, .op (.move (.tmp 110))⟩,
                  ⟨(some 112), some (111, true), .op (.move (.tmp 14))⟩,
                  ⟨(some 113), some (111, true), .op (.bin .eql (.tmp 112) (.const (.int .i64 200)))⟩,
                  ⟨(some 114), none, .op (.pick (.tmp 111) (.tmp 113) (.const (.bool false)))⟩,
                  ⟨(some 115), none, .op (.move (.tmp 114))⟩,
                  ⟨(some 116), some (115, true), .op (.move (.tmp 15))⟩,
                  ⟨(some 117), some (115, true), .op (.bin .eql (.tmp 116) (.const (.int .i64 2)))⟩,
                  ⟨(some 118), none, .op (.pick (.tmp 115) (.tmp 117) (.const (.bool false)))⟩,
                  ⟨(some 119), none, .op (.move (.tmp 118))⟩,
                  ⟨(some 120), some (119, true), .op (.move (.tmp 16))⟩,
                  ⟨(some 121), some (119, true), .op (.bin .eql (.tmp 120) (.const (.int .i64 1)))⟩,
                  ⟨(some 122), none, .op (.pick (.tmp 119) (.tmp 121) (.const (.bool false)))⟩,
                  ⟨(some 123), none, .op (.move (.tmp 122))⟩,
                  ⟨(some 124), some (123, true), .op (.move (.tmp 17))⟩,
                  ⟨(some 125), some (123, true), .op (.bin .eql (.tmp 124) (.const (.int .i64 2)))⟩,
                  ⟨(some 126), none, .op (.pick (.tmp 123) (.tmp 125) (.const (.bool false)))⟩,
                  ⟨(some 127), none, .op (.move (.tmp 126))⟩,
                  ⟨(some 128), some (127, true), .op (.move (.tmp 18))⟩,
                  ⟨(some 129), some (127, true), .op (.bin .eql (.tmp 128) (.const (.int .i64 1)))⟩,
                  ⟨(some 130), none, .op (.pick (.tmp 127) (.tmp 129) (.const (.bool false)))⟩,
                  ⟨(some 0), none, .op (.move (.tmp 130))⟩])
                (.ret))))))))))))))
def r7 : List LRes := [.tmp 0]
theorem body7 : Try.f7.body.bind (compileC Try.prog) = some c7 := by kernel_rfl
theorem res7 : compileRes Try.prog Try.f7.results.toList = some r7 := by kernel_rfl
theorem has7 : hasBody Try.prog 7 = true := by kernel_rfl
theorem enter7 {args : LVals} {h : LHeap} {R : LEnd → LHeap → Prop} (hk : 131 - lvsLen args = 131) (hw : initK args 131 fun t => lwp Try.prog h.length c7 (bodyQ r7 R) t h) : LCalls Try.prog 7 args h R := LCalls.enter Try.func7 body7 has7 res7 _ (by rw [Try.ntmps7]; exact hk) hw
/-- palatine/net.New -/
def c8 : LCode :=
  .seq
   (.region [⟨(some 2), none, .op (.move (.const .nilp))⟩,
     ⟨(some 3), none, .op (.move (.const (.int .i64 0)))⟩])
   (.seq
    (.seq
     (.region [⟨(some 4), none, .op (.move (.tmp 0))⟩,
       ⟨(some 5), none, .op (.bin .lss (.tmp 4) (.const (.int .i64 1)))⟩,
       ⟨(some 6), none, .op (.move (.tmp 5))⟩,
       ⟨(some 7), some (6, false), .op (.move (.tmp 0))⟩,
       ⟨(some 8), some (6, false), .op (.bin .gtr (.tmp 7) (.const (.int .i64 8)))⟩,
       ⟨(some 9), none, .op (.pick (.tmp 6) (.const (.bool true)) (.tmp 8))⟩])
     (.cond (.tmp 9)
      (.seq
       (.region [⟨(some 2), none, .op (.move (.const .nilp))⟩,
         ⟨(some 3), none, .op (.move (.const (.int .i64 1)))⟩])
       (.ret))
      (.skip)))
    (.seq
     (.region [⟨(some 10), none, .op (.move (.tmp 0))⟩,
       ⟨(some 11), none, .op (.bst (.one (.int .i64 0) (.one (.slice ⟨0, [], 0⟩ 0 0 0 0 (some 0)) (.one (.int .i64 0) (.one (.int .i64 0) (.one (.int .i64 0) (.one (.int .i64 0) .nil)))))) [(0, 1, (.tmp 10))])⟩,
       ⟨(some 12), none, .op (.box 54 6 (.tmp 11))⟩,
       ⟨(some 2), none, .op (.move (.tmp 12))⟩,
       ⟨(some 3), none, .op (.move (.const (.int .i64 0)))⟩])
     (.ret)))
def r8 : List LRes := [.tmp 2, .tmp 3]
theorem body8 : Try.f8.body.bind (compileC Try.prog) = some c8 := by kernel_rfl
theorem res8 : compileRes Try.prog Try.f8.results.toList = some r8 := by kernel_rfl
theorem has8 : hasBody Try.prog 8 = true := by kernel_rfl
theorem enter8 {args : LVals} {h : LHeap} {R : LEnd → LHeap → Prop} (hk : 13 - lvsLen args = 12) (hw : initK args 12 fun t => lwp Try.prog h.length c8 (bodyQ r8 R) t h) : LCalls Try.prog 8 args h R := LCalls.enter Try.func8 body8 has8 res8 _ (by rw [Try.ntmps8]; exact hk) hw
/-- palatine/palatinelaw20.does -/
def c9 : LCode :=
  .seq
   (.region [⟨(some 5), none, .op (.box 36 5 (.tmp 2))⟩,
     ⟨(some 6), none, .op (.move (.const (.bool false)))⟩])
   (.seq
    (.seq
     (.region [⟨(some 17), none, .op (.field 0 (.tmp 5))⟩,
       ⟨(some 18), none, .op (.load none (.tmp 17))⟩])
     (.block 0
      (.seq
       (.region [⟨(some 20), none, .op (.bin .eql (.tmp 18) (.const (.int .i64 1)))⟩,
         ⟨(some 19), none, .op (.move (.tmp 20))⟩])
       (.cond (.tmp 19)
        (.seq
         (.region [⟨(some 21), none, .op (.move (.tmp 0))⟩,
           ⟨(some 22), none, .op (.field 2 (.tmp 5))⟩,
           ⟨(some 23), none, .op (.load (some 3) (.tmp 22))⟩,
           ⟨(some 24), none, .call 12 [(.tmp 21), (.tmp 23)]⟩,
           ⟨(some 7), none, .op (.move (.tmp 24))⟩])
         (.seq
          (.region [⟨(some 25), none, .op (.move (.tmp 1))⟩,
            ⟨(some 26), none, .op (.field 2 (.tmp 5))⟩,
            ⟨(some 27), none, .op (.load (some 3) (.tmp 26))⟩,
            ⟨(some 28), none, .call 16 [(.tmp 25), (.tmp 27)]⟩,
            ⟨(some 8), none, .op (.move (.tmp 28))⟩])
          (.seq
           (.region [⟨(some 29), none, .op (.move (.tmp 7))⟩,
             ⟨(some 30), none, .op (.move (.tmp 8))⟩,
             ⟨(some 31), none, .op (.bin .eql (.tmp 29) (.tmp 30))⟩,
             ⟨(some 6), none, .op (.move (.tmp 31))⟩])
           (.ret))))
        (.seq
         (.region [⟨(some 33), none, .op (.bin .eql (.tmp 18) (.const (.int .i64 2)))⟩,
           ⟨(some 32), none, .op (.move (.tmp 33))⟩])
         (.cond (.tmp 32)
          (.seq
           (.region [⟨(some 35), none, .op (.move (.tmp 0))⟩,
             ⟨(some 36), none, .op (.field 1 (.tmp 5))⟩,
             ⟨(some 37), none, .op (.load none (.tmp 36))⟩,
             ⟨(some 38), none, .call 13 [(.tmp 35), (.tmp 37)]⟩,
             ⟨(some 34), none, .op (.move (.tmp 38))⟩,
             ⟨(some 39), none, .op (.ext 0 (.tmp 34))⟩,
             ⟨(some 40), none, .op (.ext 1 (.tmp 34))⟩,
             ⟨(some 9), none, .op (.alloc 34 (.one (.int .i64 0) (.one (.int .i64 0) (.one (.str ⟨#[]⟩) .nil))))⟩,
             ⟨none, none, .op (.store 3 (.tmp 9) (.tmp 39))⟩,
             ⟨(some 10), none, .op (.move (.tmp 40))⟩])
           (.seq
            (.region [⟨(some 42), none, .op (.move (.tmp 1))⟩,
              ⟨(some 43), none, .op (.field 1 (.tmp 5))⟩,
              ⟨(some 44), none, .op (.load none (.tmp 43))⟩,
              ⟨(some 45), none, .call 17 [(.tmp 42), (.tmp 44)]⟩,
              ⟨(some 41), none, .op (.move (.tmp 45))⟩,
              ⟨(some 46), none, .op (.ext 0 (.tmp 41))⟩,
              ⟨(some 47), none, .op (.ext 1 (.tmp 41))⟩,
              ⟨(some 11), none, .op (.alloc 34 (.one (.int .i64 0) (.one (.int .i64 0) (.one (.str ⟨#[]⟩) .nil))))⟩,
              ⟨none, none, .op (.store 3 (.tmp 11) (.tmp 46))⟩,
              ⟨(some 12), none, .op (.move (.tmp 47))⟩])
            (.seq
             (.region [⟨(some 48), none, .op (.load (some 3) (.tmp 9))⟩,
               ⟨(some 49), none, .op (.load (some 3) (.tmp 11))⟩,
               ⟨(some 50), none, .op (.st false [(0, 0), (1, 0), (2, 1)] (.tmp 48) (.tmp 49))⟩,
               ⟨(some 51), none, .op (.move (.tmp 50))⟩,
               ⟨(some 52), some (51, true), .op (.move (.tmp 10))⟩,
               ⟨(some 53), some (51, true), .op (.move (.tmp 12))⟩,
               ⟨(some 54), some (51, true), .op (.beq false (.tmp 52) (.tmp 53))⟩,
               ⟨(some 55), none, .op (.pick (.tmp 51) (.tmp 54) (.const (.bool false)))⟩,
               ⟨(some 6), none, .op (.move (.tmp 55))⟩])
             (.ret))))
          (.seq
           (.region [⟨(some 57), none, .op (.bin .eql (.tmp 18) (.const (.int .i64 3)))⟩,
             ⟨(some 56), none, .op (.move (.tmp 57))⟩])
           (.cond (.tmp 56)
            (.seq
             (.region [⟨(some 58), none, .op (.move (.tmp 0))⟩,
               ⟨(some 59), none, .op (.field 1 (.tmp 5))⟩,
               ⟨(some 60), none, .op (.load none (.tmp 59))⟩,
               ⟨(some 61), none, .call 14 [(.tmp 58), (.tmp 60)]⟩,
               ⟨(some 13), none, .op (.move (.tmp 61))⟩])
             (.seq
              (.region [⟨(some 62), none, .op (.move (.tmp 1))⟩,
                ⟨(some 63), none, .op (.field 1 (.tmp 5))⟩,
                ⟨(some 64), none, .op (.load none (.tmp 63))⟩,
                ⟨(some 65), none, .call 18 [(.tmp 62), (.tmp 64)]⟩,
                ⟨(some 14), none, .op (.move (.tmp 65))⟩])
              (.seq
               (.region [⟨(some 66), none, .op (.move (.tmp 13))⟩,
                 ⟨(some 67), none, .op (.move (.tmp 14))⟩,
                 ⟨(some 68), none, .op (.beq false (.tmp 66) (.tmp 67))⟩,
                 ⟨(some 6), none, .op (.move (.tmp 68))⟩])
               (.ret))))
            (.seq
             (.region [⟨(some 70), none, .op (.bin .eql (.tmp 18) (.const (.int .i64 4)))⟩,
               ⟨(some 69), none, .op (.move (.tmp 70))⟩])
             (.cond (.tmp 69)
              (.seq
               (.region [⟨(some 71), none, .op (.move (.tmp 0))⟩,
                 ⟨(some 72), none, .op (.field 1 (.tmp 5))⟩,
                 ⟨(some 73), none, .op (.load none (.tmp 72))⟩,
                 ⟨(some 74), none, .call 15 [(.tmp 71), (.tmp 73)]⟩,
                 ⟨(some 15), none, .op (.move (.tmp 74))⟩])
               (.seq
                (.region [⟨(some 75), none, .op (.move (.tmp 1))⟩,
                  ⟨(some 76), none, .op (.field 1 (.tmp 5))⟩,
                  ⟨(some 77), none, .op (.load none (.tmp 76))⟩,
                  ⟨(some 78), none, .call 19 [(.tmp 75), (.tmp 77)]⟩,
                  ⟨(some 16), none, .op (.move (.tmp 78))⟩])
                (.seq
                 (.region [⟨(some 79), none, .op (.move (.tmp 15))⟩,
                   ⟨(some 80), none, .op (.move (.tmp 16))⟩,
                   ⟨(some 81), none, .op (.bin .eql (.tmp 79) (.tmp 80))⟩,
                   ⟨(some 6), none, .op (.move (.tmp 81))⟩])
                 (.ret))))
              (.skip)))))))))))
    (.seq
     (.region [⟨(some 6), none, .op (.move (.const (.bool true)))⟩])
     (.ret)))
def r9 : List LRes := [.tmp 6]
theorem body9 : Try.f9.body.bind (compileC Try.prog) = some c9 := by kernel_rfl
theorem res9 : compileRes Try.prog Try.f9.results.toList = some r9 := by kernel_rfl
theorem has9 : hasBody Try.prog 9 = true := by kernel_rfl
theorem enter9 {args : LVals} {h : LHeap} {R : LEnd → LHeap → Prop} (hk : 82 - lvsLen args = 79) (hw : initK args 79 fun t => lwp Try.prog h.length c9 (bodyQ r9 R) t h) : LCalls Try.prog 9 args h R := LCalls.enter Try.func9 body9 has9 res9 _ (by rw [Try.ntmps9]; exact hk) hw
/-- (*palatine/net.Net).Way -/
def c10 : LCode :=
  .seq
   (.region [⟨(some 2), none, .op (.move (.const (.slice ⟨0, [], 0⟩ 0 0 0 0 (some 0))))⟩])
   (.seq
    (.region [⟨(some 3), none, .op (.move (.tmp 0))⟩,
      ⟨(some 4), none, .op (.nilc (.tmp 3))⟩,
      ⟨(some 5), none, .op (.field 1 (.tmp 4))⟩,
      ⟨(some 6), none, .op (.load none (.tmp 5))⟩,
      ⟨(some 7), none, .call 20 [(.tmp 6)]⟩,
      ⟨(some 2), none, .op (.move (.tmp 7))⟩])
    (.ret))
def r10 : List LRes := [.tmp 2]
theorem body10 : Try.f10.body.bind (compileC Try.prog) = some c10 := by kernel_rfl
theorem res10 : compileRes Try.prog Try.f10.results.toList = some r10 := by kernel_rfl
theorem has10 : hasBody Try.prog 10 = true := by kernel_rfl
theorem enter10 {args : LVals} {h : LHeap} {R : LEnd → LHeap → Prop} (hk : 8 - lvsLen args = 7) (hw : initK args 7 fun t => lwp Try.prog h.length c10 (bodyQ r10 R) t h) : LCalls Try.prog 10 args h R := LCalls.enter Try.func10 body10 has10 res10 _ (by rw [Try.ntmps10]; exact hk) hw
/-- (*palatine/net.Net).Counts -/
def c11 : LCode :=
  .seq
   (.region [⟨(some 2), none, .op (.move (.const (.int .i64 0)))⟩,
     ⟨(some 3), none, .op (.move (.const (.int .i64 0)))⟩,
     ⟨(some 4), none, .op (.move (.const (.int .i64 0)))⟩,
     ⟨(some 5), none, .op (.move (.const (.int .i64 0)))⟩])
   (.seq
    (.draws [(0, [], ⟨(some 6), none, .op (.move (.tmp 0))⟩),
      (1, [], ⟨(some 7), none, .op (.nilc (.tmp 6))⟩),
      (2, [], ⟨(some 8), none, .op (.field 2 (.tmp 7))⟩),
      (3, [], ⟨(some 9), none, .call 21 [(.tmp 8)]⟩),
      (4, [0, 1, 2, 3], ⟨(some 10), none, .op (.move (.tmp 0))⟩),
      (5, [0, 1, 2, 3], ⟨(some 11), none, .op (.nilc (.tmp 10))⟩),
      (6, [0, 1, 2, 3], ⟨(some 12), none, .op (.field 3 (.tmp 11))⟩),
      (7, [], ⟨(some 13), none, .call 21 [(.tmp 12)]⟩),
      (8, [0, 1, 2, 3, 4, 5, 6, 7], ⟨(some 14), none, .op (.move (.tmp 0))⟩),
      (9, [0, 1, 2, 3, 4, 5, 6, 7], ⟨(some 15), none, .op (.nilc (.tmp 14))⟩),
      (10, [0, 1, 2, 3, 4, 5, 6, 7], ⟨(some 16), none, .op (.field 4 (.tmp 15))⟩),
      (11, [], ⟨(some 17), none, .call 21 [(.tmp 16)]⟩),
      (12, [0, 1, 2, 3, 4, 5, 6, 7, 8, 9, 10, 11], ⟨(some 18), none, .op (.move (.tmp 0))⟩),
      (13, [0, 1, 2, 3, 4, 5, 6, 7, 8, 9, 10, 11], ⟨(some 19), none, .op (.nilc (.tmp 18))⟩),
      (14, [0, 1, 2, 3, 4, 5, 6, 7, 8, 9, 10, 11], ⟨(some 20), none, .op (.field 5 (.tmp 19))⟩),
      (15, [], ⟨(some 21), none, .call 21 [(.tmp 20)]⟩),
      (16, [], ⟨(some 2), none, .op (.move (.tmp 9))⟩),
      (17, [], ⟨(some 3), none, .op (.move (.tmp 13))⟩),
      (18, [], ⟨(some 4), none, .op (.move (.tmp 17))⟩),
      (19, [], ⟨(some 5), none, .op (.move (.tmp 21))⟩)])
    (.ret))
def r11 : List LRes := [.tmp 2, .tmp 3, .tmp 4, .tmp 5]
theorem body11 : Try.f11.body.bind (compileC Try.prog) = some c11 := by kernel_rfl
theorem res11 : compileRes Try.prog Try.f11.results.toList = some r11 := by kernel_rfl
theorem has11 : hasBody Try.prog 11 = true := by kernel_rfl
theorem enter11 {args : LVals} {h : LHeap} {R : LEnd → LHeap → Prop} (hk : 22 - lvsLen args = 21) (hw : initK args 21 fun t => lwp Try.prog h.length c11 (bodyQ r11 R) t h) : LCalls Try.prog 11 args h R := LCalls.enter Try.func11 body11 has11 res11 _ (by rw [Try.ntmps11]; exact hk) hw
/-- (*palatine/net.Net).Send -/
def c12 : LCode :=
  .seq
   (.region [⟨(some 2), none, .op (.box 24 1 (.tmp 0))⟩,
     ⟨(some 3), none, .op (.box 34 3 (.tmp 1))⟩,
     ⟨(some 4), none, .op (.move (.const (.int .i64 0)))⟩])
   (.seq
    (.region [⟨(some 6), none, .op (.mkFunc 22 [(.tmp 2)])⟩,
      ⟨(some 5), none, .op (.move (.tmp 6))⟩])
    (.seq
     (.block 0
      (.seq
       (.region [⟨(some 8), none, .op (.move (.tmp 5))⟩,
         ⟨(some 9), none, .op (.field 0 (.tmp 3))⟩,
         ⟨(some 10), none, .op (.load none (.tmp 9))⟩,
         ⟨(some 11), none, .callv (.tmp 8) [(.tmp 10)]⟩,
         ⟨(some 12), none, .op (.un .not (.tmp 11))⟩,
         ⟨(some 13), none, .op (.move (.tmp 12))⟩,
         ⟨(some 14), some (13, false), .op (.move (.tmp 5))⟩,
         ⟨(some 15), some (13, false), .op (.field 1 (.tmp 3))⟩,
         ⟨(some 16), some (13, false), .op (.load none (.tmp 15))⟩,
         ⟨(some 17), some (13, false), .callv (.tmp 14) [(.tmp 16)]⟩,
         ⟨(some 18), some (13, false), .op (.un .not (.tmp 17))⟩,
         ⟨(some 19), none, .op (.pick (.tmp 13) (.const (.bool true)) (.tmp 18))⟩,
         ⟨(some 20), none, .op (.move (.tmp 19))⟩,
         ⟨(some 21), some (20, false), .op (.field 0 (.tmp 3))⟩,
         ⟨(some 22), some (20, false), .op (.load none (.tmp 21))⟩,
         ⟨(some 23), some (20, false), .op (.field 1 (.tmp 3))⟩,
         ⟨(some 24), some (20, false), .op (.load none (.tmp 23))⟩,
         ⟨(some 25), some (20, false), .op (.bin .eql (.tmp 22) (.tmp 24))⟩,
         ⟨(some 26), none, .op (.pick (.tmp 20) (.const (.bool true)) (.tmp 25))⟩,
         ⟨(some 7), none, .op (.move (.tmp 26))⟩])
       (.cond (.tmp 7)
        (.seq
         (.region [⟨(some 4), none, .op (.move (.const (.int .i64 200)))⟩])
         (.ret))
        (.seq
         (.region [⟨(some 28), none, .op (.field 2 (.tmp 3))⟩,
           ⟨(some 29), none, .op (.load none (.tmp 28))⟩,
           ⟨(some 30), none, .op (.lenStr (.tmp 29))⟩,
           ⟨(some 31), none, .op (.bin .gtr (.tmp 30) (.const (.int .i64 2000)))⟩,
           ⟨(some 27), none, .op (.move (.tmp 31))⟩])
         (.cond (.tmp 27)
          (.seq
           (.region [⟨(some 4), none, .op (.move (.const (.int .i64 2)))⟩])
           (.ret))
          (.seq
           (.region [⟨(some 33), none, .op (.load none (.tmp 2))⟩,
             ⟨(some 34), none, .op (.nilc (.tmp 33))⟩,
             ⟨(some 35), none, .op (.field 1 (.tmp 34))⟩,
             ⟨(some 36), none, .op (.load none (.tmp 35))⟩,
             ⟨(some 37), none, .op (.lenSl (.tmp 36))⟩,
             ⟨(some 38), none, .op (.bin .geq (.tmp 37) (.const (.int .i64 100)))⟩,
             ⟨(some 32), none, .op (.move (.tmp 38))⟩])
           (.cond (.tmp 32)
            (.seq
             (.region [⟨(some 4), none, .op (.move (.const (.int .i64 3)))⟩])
             (.ret))
            (.skip))))))))
     (.seq
      (.draws [(0, [], ⟨(some 39), none, .op (.load none (.tmp 2))⟩),
        (1, [0], ⟨(some 40), none, .op (.load none (.tmp 2))⟩),
        (2, [0], ⟨(some 41), none, .op (.nilc (.tmp 40))⟩),
        (3, [0], ⟨(some 42), none, .op (.field 1 (.tmp 41))⟩),
        (4, [0], ⟨(some 43), none, .op (.load none (.tmp 42))⟩),
        (5, [0, 1, 2, 3, 4], ⟨(some 44), none, .op (.load (some 3) (.tmp 3))⟩),
        (6, [0, 1, 2, 3, 4], ⟨(some 45), none, .op (.bsl 3 1 34 (.one (.int .i64 0) (.one (.int .i64 0) (.one (.str ⟨#[]⟩) .nil))) [(0, (.tmp 44))])⟩),
        (7, [0], ⟨(some 46), none, .op (.app 3 32 34 (.tmp 43) (.tmp 45))⟩),
        (8, [], ⟨(some 47), none, .op (.nilc (.tmp 39))⟩),
        (9, [], ⟨(some 48), none, .op (.field 1 (.tmp 47))⟩),
        (10, [], ⟨none, none, .op (.store 1 (.tmp 48) (.tmp 46))⟩)])
      (.seq
       (.region [⟨(some 49), none, .op (.load none (.tmp 2))⟩,
         ⟨(some 50), none, .op (.nilc (.tmp 49))⟩,
         ⟨(some 51), none, .op (.field 2 (.tmp 50))⟩,
         ⟨(some 52), none, .call 23 [(.tmp 51), (.const (.int .i64 1))]⟩])
       (.seq
        (.region [⟨(some 4), none, .op (.move (.const (.int .i64 0)))⟩])
        (.ret))))))
def r12 : List LRes := [.tmp 4]
theorem body12 : Try.f12.body.bind (compileC Try.prog) = some c12 := by kernel_rfl
theorem res12 : compileRes Try.prog Try.f12.results.toList = some r12 := by kernel_rfl
theorem has12 : hasBody Try.prog 12 = true := by kernel_rfl
theorem enter12 {args : LVals} {h : LHeap} {R : LEnd → LHeap → Prop} (hk : 53 - lvsLen args = 51) (hw : initK args 51 fun t => lwp Try.prog h.length c12 (bodyQ r12 R) t h) : LCalls Try.prog 12 args h R := LCalls.enter Try.func12 body12 has12 res12 _ (by rw [Try.ntmps12]; exact hk) hw
/-- (*palatine/net.Net).Deliver -/
def c13 : LCode :=
  .seq
   (.region [⟨(some 4), none, .op (.alloc 34 (.one (.int .i64 0) (.one (.int .i64 0) (.one (.str ⟨#[]⟩) .nil))))⟩,
     ⟨(some 5), none, .op (.move (.const (.bool false)))⟩])
   (.seq
    (.region [⟨(some 9), none, .op (.move (.tmp 0))⟩,
      ⟨(some 10), none, .op (.move (.tmp 1))⟩,
      ⟨(some 11), none, .call 24 [(.tmp 9), (.tmp 10)]⟩,
      ⟨(some 8), none, .op (.move (.tmp 11))⟩,
      ⟨(some 12), none, .op (.ext 0 (.tmp 8))⟩,
      ⟨(some 13), none, .op (.ext 1 (.tmp 8))⟩,
      ⟨(some 6), none, .op (.alloc 34 (.one (.int .i64 0) (.one (.int .i64 0) (.one (.str ⟨#[]⟩) .nil))))⟩,
      ⟨none, none, .op (.store 3 (.tmp 6) (.tmp 12))⟩,
      ⟨(some 7), none, .op (.move (.tmp 13))⟩])
    (.seq
     (.seq
      (.region [⟨(some 14), none, .op (.move (.tmp 7))⟩])
      (.cond (.tmp 14)
       (.region [⟨(some 15), none, .op (.move (.tmp 0))⟩,
         ⟨(some 16), none, .op (.nilc (.tmp 15))⟩,
         ⟨(some 17), none, .op (.field 4 (.tmp 16))⟩,
         ⟨(some 18), none, .call 23 [(.tmp 17), (.const (.int .i64 1))]⟩])
       (.skip)))
     (.seq
      (.region [⟨(some 19), none, .op (.load (some 3) (.tmp 6))⟩,
        ⟨(some 20), none, .op (.move (.tmp 7))⟩,
        ⟨none, none, .op (.store 3 (.tmp 4) (.tmp 19))⟩,
        ⟨(some 5), none, .op (.move (.tmp 20))⟩])
      (.ret))))
def r13 : List LRes := [.cell 4 (some 3), .tmp 5]
theorem body13 : Try.f13.body.bind (compileC Try.prog) = some c13 := by kernel_rfl
theorem res13 : compileRes Try.prog Try.f13.results.toList = some r13 := by kernel_rfl
theorem has13 : hasBody Try.prog 13 = true := by kernel_rfl
theorem enter13 {args : LVals} {h : LHeap} {R : LEnd → LHeap → Prop} (hk : 21 - lvsLen args = 19) (hw : initK args 19 fun t => lwp Try.prog h.length c13 (bodyQ r13 R) t h) : LCalls Try.prog 13 args h R := LCalls.enter Try.func13 body13 has13 res13 _ (by rw [Try.ntmps13]; exact hk) hw
/-- (*palatine/net.Net).Lose -/
def c14 : LCode :=
  .seq
   (.region [⟨(some 4), none, .op (.move (.const (.bool false)))⟩])
   (.seq
    (.region [⟨(some 8), none, .op (.move (.tmp 0))⟩,
      ⟨(some 9), none, .op (.move (.tmp 1))⟩,
      ⟨(some 10), none, .call 24 [(.tmp 8), (.tmp 9)]⟩,
      ⟨(some 7), none, .op (.move (.tmp 10))⟩,
      ⟨(some 11), none, .op (.ext 0 (.tmp 7))⟩,
      ⟨(some 12), none, .op (.ext 1 (.tmp 7))⟩,
      ⟨(some 5), none, .op (.alloc 34 (.one (.int .i64 0) (.one (.int .i64 0) (.one (.str ⟨#[]⟩) .nil))))⟩,
      ⟨none, none, .op (.store 3 (.tmp 5) (.tmp 11))⟩,
      ⟨(some 6), none, .op (.move (.tmp 12))⟩])
    (.seq
     (.seq
      (.region [⟨(some 13), none, .op (.move (.tmp 6))⟩])
      (.cond (.tmp 13)
       (.region [⟨(some 14), none, .op (.move (.tmp 0))⟩,
         ⟨(some 15), none, .op (.nilc (.tmp 14))⟩,
         ⟨(some 16), none, .op (.field 5 (.tmp 15))⟩,
         ⟨(some 17), none, .call 23 [(.tmp 16), (.const (.int .i64 1))]⟩])
       (.skip)))
     (.seq
      (.region [⟨(some 18), none, .op (.move (.tmp 6))⟩,
        ⟨(some 4), none, .op (.move (.tmp 18))⟩])
      (.ret))))
def r14 : List LRes := [.tmp 4]
theorem body14 : Try.f14.body.bind (compileC Try.prog) = some c14 := by kernel_rfl
theorem res14 : compileRes Try.prog Try.f14.results.toList = some r14 := by kernel_rfl
theorem has14 : hasBody Try.prog 14 = true := by kernel_rfl
theorem enter14 {args : LVals} {h : LHeap} {R : LEnd → LHeap → Prop} (hk : 19 - lvsLen args = 17) (hw : initK args 17 fun t => lwp Try.prog h.length c14 (bodyQ r14 R) t h) : LCalls Try.prog 14 args h R := LCalls.enter Try.func14 body14 has14 res14 _ (by rw [Try.ntmps14]; exact hk) hw
/-- (*palatine/net.Net).Double -/
def c15 : LCode :=
  .seq
   (.region [⟨(some 4), none, .op (.move (.const (.int .i64 0)))⟩])
   (.seq
    (.block 0
     (.seq
      (.region [⟨(some 6), none, .op (.move (.tmp 1))⟩,
        ⟨(some 7), none, .op (.bin .lss (.tmp 6) (.const (.int .i64 0)))⟩,
        ⟨(some 8), none, .op (.move (.tmp 7))⟩,
        ⟨(some 9), some (8, false), .op (.move (.tmp 1))⟩,
        ⟨(some 10), some (8, false), .op (.move (.tmp 0))⟩,
        ⟨(some 11), some (8, false), .op (.nilc (.tmp 10))⟩,
        ⟨(some 12), some (8, false), .op (.field 1 (.tmp 11))⟩,
        ⟨(some 13), some (8, false), .op (.load none (.tmp 12))⟩,
        ⟨(some 14), some (8, false), .op (.lenSl (.tmp 13))⟩,
        ⟨(some 15), some (8, false), .op (.bin .geq (.tmp 9) (.tmp 14))⟩,
        ⟨(some 16), none, .op (.pick (.tmp 8) (.const (.bool true)) (.tmp 15))⟩,
        ⟨(some 5), none, .op (.move (.tmp 16))⟩])
      (.cond (.tmp 5)
       (.seq
        (.region [⟨(some 4), none, .op (.move (.const (.int .i64 1)))⟩])
        (.ret))
       (.seq
        (.region [⟨(some 18), none, .op (.move (.tmp 0))⟩,
          ⟨(some 19), none, .op (.nilc (.tmp 18))⟩,
          ⟨(some 20), none, .op (.field 1 (.tmp 19))⟩,
          ⟨(some 21), none, .op (.load none (.tmp 20))⟩,
          ⟨(some 22), none, .op (.lenSl (.tmp 21))⟩,
          ⟨(some 23), none, .op (.bin .geq (.tmp 22) (.const (.int .i64 100)))⟩,
          ⟨(some 17), none, .op (.move (.tmp 23))⟩])
        (.cond (.tmp 17)
         (.seq
          (.region [⟨(some 4), none, .op (.move (.const (.int .i64 3)))⟩])
          (.ret))
         (.skip))))))
    (.seq
     (.draws [(0, [], ⟨(some 24), none, .op (.move (.tmp 0))⟩),
       (1, [0], ⟨(some 25), none, .op (.move (.tmp 0))⟩),
       (2, [0], ⟨(some 26), none, .op (.nilc (.tmp 25))⟩),
       (3, [0], ⟨(some 27), none, .op (.field 1 (.tmp 26))⟩),
       (4, [0], ⟨(some 28), none, .op (.load none (.tmp 27))⟩),
       (5, [0, 1, 2, 3, 4], ⟨(some 29), none, .op (.move (.tmp 0))⟩),
       (6, [0, 1, 2, 3, 4], ⟨(some 30), none, .op (.nilc (.tmp 29))⟩),
       (7, [0, 1, 2, 3, 4], ⟨(some 31), none, .op (.field 1 (.tmp 30))⟩),
       (8, [0, 1, 2, 3, 4], ⟨(some 32), none, .op (.load none (.tmp 31))⟩),
       (9, [0, 1, 2, 3, 4, 5, 6, 7, 8], ⟨(some 33), none, .op (.move (.tmp 1))⟩),
       (10, [0, 1, 2, 3, 4], ⟨(some 34), none, .op (.idxSl 3 (.tmp 32) (.tmp 33))⟩),
       (11, [0, 1, 2, 3, 4], ⟨(some 35), none, .op (.load (some 3) (.tmp 34))⟩),
       (12, [0, 1, 2, 3, 4], ⟨(some 36), none, .op (.bsl 3 1 34 (.one (.int .i64 0) (.one (.int .i64 0) (.one (.str ⟨#[]⟩) .nil))) [(0, (.tmp 35))])⟩),
       (13, [0], ⟨(some 37), none, .op (.app 3 32 34 (.tmp 28) (.tmp 36))⟩),
       (14, [], ⟨(some 38), none, .op (.nilc (.tmp 24))⟩),
       (15, [], ⟨(some 39), none, .op (.field 1 (.tmp 38))⟩),
       (16, [], ⟨none, none, .op (.store 1 (.tmp 39) (.tmp 37))⟩)])
     (.seq
      (.region [⟨(some 40), none, .op (.move (.tmp 0))⟩,
        ⟨(some 41), none, .op (.nilc (.tmp 40))⟩,
        ⟨(some 42), none, .op (.field 3 (.tmp 41))⟩,
        ⟨(some 43), none, .call 23 [(.tmp 42), (.const (.int .i64 1))]⟩])
      (.seq
       (.region [⟨(some 4), none, .op (.move (.const (.int .i64 0)))⟩])
       (.ret)))))
def r15 : List LRes := [.tmp 4]
theorem body15 : Try.f15.body.bind (compileC Try.prog) = some c15 := by kernel_rfl
theorem res15 : compileRes Try.prog Try.f15.results.toList = some r15 := by kernel_rfl
theorem has15 : hasBody Try.prog 15 = true := by kernel_rfl
theorem enter15 {args : LVals} {h : LHeap} {R : LEnd → LHeap → Prop} (hk : 44 - lvsLen args = 42) (hw : initK args 42 fun t => lwp Try.prog h.length c15 (bodyQ r15 R) t h) : LCalls Try.prog 15 args h R := LCalls.enter Try.func15 body15 has15 res15 _ (by rw [Try.ntmps15]; exact hk) hw
/-- (*palatine/palatineref20.Net).Send -/
def c16 : LCode :=
  .seq
   (.region [⟨(some 3), none, .op (.box 34 3 (.tmp 1))⟩,
     ⟨(some 4), none, .op (.move (.const (.int .i64 0)))⟩])
   (.seq
    (.seq
     (.draws [(0, [], ⟨(some 5), none, .op (.field 0 (.tmp 3))⟩),
       (1, [], ⟨(some 6), none, .op (.load none (.tmp 5))⟩),
       (2, [], ⟨(some 7), none, .op (.bin .lss (.tmp 6) (.const (.int .i64 0)))⟩),
       (3, [], ⟨(some 8), none, .op (.move (.tmp 7))⟩),
       (4, [], ⟨(some 9), some (8, false), .op (.field 0 (.tmp 3))⟩),
       (5, [], ⟨(some 10), some (8, false), .op (.load none (.tmp 9))⟩),
       (6, [4, 5], ⟨(some 11), some (8, false), .op (.move (.tmp 0))⟩),
       (7, [4, 5], ⟨(some 12), some (8, false), .op (.nilc (.tmp 11))⟩),
       (8, [4, 5], ⟨(some 13), some (8, false), .op (.field 0 (.tmp 12))⟩),
       (9, [4, 5], ⟨(some 14), some (8, false), .op (.load none (.tmp 13))⟩),
       (10, [], ⟨(some 15), some (8, false), .op (.bin .geq (.tmp 10) (.tmp 14))⟩),
       (11, [], ⟨(some 16), none, .op (.pick (.tmp 8) (.const (.bool true)) (.tmp 15))⟩),
       (12, [], ⟨(some 17), none, .op (.move (.tmp 16))⟩),
       (13, [], ⟨(some 18), some (17, false), .op (.field 1 (.tmp 3))⟩),
       (14, [], ⟨(some 19), some (17, false), .op (.load none (.tmp 18))⟩),
       (15, [], ⟨(some 20), some (17, false), .op (.bin .lss (.tmp 19) (.const (.int .i64 0)))⟩),
       (16, [], ⟨(some 21), none, .op (.pick (.tmp 17) (.const (.bool true)) (.tmp 20))⟩),
       (17, [], ⟨(some 22), none, .op (.move (.tmp 21))⟩),
       (18, [], ⟨(some 23), some (22, false), .op (.field 1 (.tmp 3))⟩),
       (19, [], ⟨(some 24), some (22, false), .op (.load none (.tmp 23))⟩),
       (20, [18, 19], ⟨(some 25), some (22, false), .op (.move (.tmp 0))⟩),
       (21, [18, 19], ⟨(some 26), some (22, false), .op (.nilc (.tmp 25))⟩),
       (22, [18, 19], ⟨(some 27), some (22, false), .op (.field 0 (.tmp 26))⟩),
       (23, [18, 19], ⟨(some 28), some (22, false), .op (.load none (.tmp 27))⟩),
       (24, [], ⟨(some 29), some (22, false), .op (.bin .geq (.tmp 24) (.tmp 28))⟩),
       (25, [], ⟨(some 30), none, .op (.pick (.tmp 22) (.const (.bool true)) (.tmp 29))⟩),
       (26, [], ⟨(some 31), none, .op (.move (.tmp 30))⟩),
       (27, [], ⟨(some 32), some (31, false), .op (.field 0 (.tmp 3))⟩),
       (28, [], ⟨(some 33), some (31, false), .op (.load none (.tmp 32))⟩),
       (29, [27, 28], ⟨(some 34), some (31, false), .op (.field 1 (.tmp 3))⟩),
       (30, [27, 28], ⟨(some 35), some (31, false), .op (.load none (.tmp 34))⟩),
       (31, [], ⟨(some 36), some (31, false), .op (.bin .eql (.tmp 33) (.tmp 35))⟩),
       (32, [], ⟨(some 37), none, .op (.pick (.tmp 31) (.const (.bool true)) (.tmp 36))⟩)])
     (.cond (.tmp 37)
      (.seq
       (.region [⟨(some 4), none, .op (.move (.const (.int .i64 200)))⟩])
       (.ret))
      (.skip)))
    (.seq
     (.seq
      (.region [⟨(some 38), none, .op (.field 2 (.tmp 3))⟩,
        ⟨(some 39), none, .op (.load none (.tmp 38))⟩,
        ⟨(some 40), none, .op (.lenStr (.tmp 39))⟩,
        ⟨(some 41), none, .op (.bin .gtr (.tmp 40) (.const (.int .i64 2000)))⟩])
      (.cond (.tmp 41)
       (.seq
        (.region [⟨(some 4), none, .op (.move (.const (.int .i64 2)))⟩])
        (.ret))
       (.skip)))
     (.seq
      (.seq
       (.region [⟨(some 42), none, .op (.move (.tmp 0))⟩,
         ⟨(some 43), none, .op (.nilc (.tmp 42))⟩,
         ⟨(some 44), none, .op (.field 1 (.tmp 43))⟩,
         ⟨(some 45), none, .op (.load none (.tmp 44))⟩,
         ⟨(some 46), none, .op (.lenSl (.tmp 45))⟩,
         ⟨(some 47), none, .op (.bin .geq (.tmp 46) (.const (.int .i64 100)))⟩])
       (.cond (.tmp 47)
        (.seq
         (.region [⟨(some 4), none, .op (.move (.const (.int .i64 3)))⟩])
         (.ret))
        (.skip)))
      (.seq
       (.draws [(0, [], ⟨(some 48), none, .op (.move (.tmp 0))⟩),
         (1, [0], ⟨(some 49), none, .op (.move (.tmp 0))⟩),
         (2, [0], ⟨(some 50), none, .op (.nilc (.tmp 49))⟩),
         (3, [0], ⟨(some 51), none, .op (.field 1 (.tmp 50))⟩),
         (4, [0], ⟨(some 52), none, .op (.load none (.tmp 51))⟩),
         (5, [0, 1, 2, 3, 4], ⟨(some 53), none, .op (.load (some 3) (.tmp 3))⟩),
         (6, [0, 1, 2, 3, 4], ⟨(some 54), none, .op (.bsl 3 1 34 (.one (.int .i64 0) (.one (.int .i64 0) (.one (.str ⟨#[]⟩) .nil))) [(0, (.tmp 53))])⟩),
         (7, [0], ⟨(some 55), none, .op (.app 3 32 34 (.tmp 52) (.tmp 54))⟩),
         (8, [], ⟨(some 56), none, .op (.nilc (.tmp 48))⟩),
         (9, [], ⟨(some 57), none, .op (.field 1 (.tmp 56))⟩),
         (10, [], ⟨none, none, .op (.store 1 (.tmp 57) (.tmp 55))⟩)])
       (.seq
        (.region [⟨(some 58), none, .op (.move (.tmp 0))⟩,
          ⟨(some 59), none, .op (.move (.tmp 0))⟩,
          ⟨(some 60), none, .op (.nilc (.tmp 59))⟩,
          ⟨(some 61), none, .op (.field 2 (.tmp 60))⟩,
          ⟨(some 62), none, .op (.load none (.tmp 61))⟩,
          ⟨(some 63), none, .op (.bin .add (.tmp 62) (.const (.int .i64 1)))⟩,
          ⟨(some 64), none, .op (.nilc (.tmp 58))⟩,
          ⟨(some 65), none, .op (.field 2 (.tmp 64))⟩,
          ⟨none, none, .op (.store 1 (.tmp 65) (.tmp 63))⟩])
        (.seq
         (.region [⟨(some 4), none, .op (.move (.const (.int .i64 0)))⟩])
         (.ret)))))))
def r16 : List LRes := [.tmp 4]
theorem body16 : Try.f16.body.bind (compileC Try.prog) = some c16 := by kernel_rfl
theorem res16 : compileRes Try.prog Try.f16.results.toList = some r16 := by kernel_rfl
theorem has16 : hasBody Try.prog 16 = true := by kernel_rfl
theorem enter16 {args : LVals} {h : LHeap} {R : LEnd → LHeap → Prop} (hk : 66 - lvsLen args = 64) (hw : initK args 64 fun t => lwp Try.prog h.length c16 (bodyQ r16 R) t h) : LCalls Try.prog 16 args h R := LCalls.enter Try.func16 body16 has16 res16 _ (by rw [Try.ntmps16]; exact hk) hw
/-- (*palatine/palatineref20.Net).Deliver -/
def c17 : LCode :=
  .seq
   (.region [⟨(some 4), none, .op (.alloc 34 (.one (.int .i64 0) (.one (.int .i64 0) (.one (.str ⟨#[]⟩) .nil))))⟩,
     ⟨(some 5), none, .op (.move (.const (.bool false)))⟩])
   (.seq
    (.region [⟨(some 9), none, .op (.move (.tmp 0))⟩,
      ⟨(some 10), none, .op (.move (.tmp 1))⟩,
      ⟨(some 11), none, .call 25 [(.tmp 9), (.tmp 10)]⟩,
      ⟨(some 8), none, .op (.move (.tmp 11))⟩,
      ⟨(some 12), none, .op (.ext 0 (.tmp 8))⟩,
      ⟨(some 13), none, .op (.ext 1 (.tmp 8))⟩,
      ⟨(some 6), none, .op (.alloc 34 (.one (.int .i64 0) (.one (.int .i64 0) (.one (.str ⟨#[]⟩) .nil))))⟩,
      ⟨none, none, .op (.store 3 (.tmp 6) (.tmp 12))⟩,
      ⟨(some 7), none, .op (.move (.tmp 13))⟩])
    (.seq
     (.seq
      (.region [⟨(some 14), none, .op (.move (.tmp 7))⟩])
      (.cond (.tmp 14)
       (.region [⟨(some 15), none, .op (.move (.tmp 0))⟩,
         ⟨(some 16), none, .op (.move (.tmp 0))⟩,
         ⟨(some 17), none, .op (.nilc (.tmp 16))⟩,
         ⟨(some 18), none, .op (.field 4 (.tmp 17))⟩,
         ⟨(some 19), none, .op (.load none (.tmp 18))⟩,
         ⟨(some 20), none, .op (.bin .add (.tmp 19) (.const (.int .i64 1)))⟩,
         ⟨(some 21), none, .op (.nilc (.tmp 15))⟩,
         ⟨(some 22), none, .op (.field 4 (.tmp 21))⟩,
         ⟨none, none, .op (.store 1 (.tmp 22) (.tmp 20))⟩])
       (.skip)))
     (.seq
      (.region [⟨(some 23), none, .op (.load (some 3) (.tmp 6))⟩,
        ⟨(some 24), none, .op (.move (.tmp 7))⟩,
        ⟨none, none, .op (.store 3 (.tmp 4) (.tmp 23))⟩,
        ⟨(some 5), none, .op (.move (.tmp 24))⟩])
      (.ret))))
def r17 : List LRes := [.cell 4 (some 3), .tmp 5]
theorem body17 : Try.f17.body.bind (compileC Try.prog) = some c17 := by kernel_rfl
theorem res17 : compileRes Try.prog Try.f17.results.toList = some r17 := by kernel_rfl
theorem has17 : hasBody Try.prog 17 = true := by kernel_rfl
theorem enter17 {args : LVals} {h : LHeap} {R : LEnd → LHeap → Prop} (hk : 25 - lvsLen args = 23) (hw : initK args 23 fun t => lwp Try.prog h.length c17 (bodyQ r17 R) t h) : LCalls Try.prog 17 args h R := LCalls.enter Try.func17 body17 has17 res17 _ (by rw [Try.ntmps17]; exact hk) hw
/-- (*palatine/palatineref20.Net).Lose -/
def c18 : LCode :=
  .seq
   (.region [⟨(some 4), none, .op (.move (.const (.bool false)))⟩])
   (.seq
    (.region [⟨(some 8), none, .op (.move (.tmp 0))⟩,
      ⟨(some 9), none, .op (.move (.tmp 1))⟩,
      ⟨(some 10), none, .call 25 [(.tmp 8), (.tmp 9)]⟩,
      ⟨(some 7), none, .op (.move (.tmp 10))⟩,
      ⟨(some 11), none, .op (.ext 0 (.tmp 7))⟩,
      ⟨(some 12), none, .op (.ext 1 (.tmp 7))⟩,
      ⟨(some 5), none, .op (.alloc 34 (.one (.int .i64 0) (.one (.int .i64 0) (.one (.str ⟨#[]⟩) .nil))))⟩,
      ⟨none, none, .op (.store 3 (.tmp 5) (.tmp 11))⟩,
      ⟨(some 6), none, .op (.move (.tmp 12))⟩])
    (.seq
     (.seq
      (.region [⟨(some 13), none, .op (.move (.tmp 6))⟩])
      (.cond (.tmp 13)
       (.region [⟨(some 14), none, .op (.move (.tmp 0))⟩,
         ⟨(some 15), none, .op (.move (.tmp 0))⟩,
         ⟨(some 16), none, .op (.nilc (.tmp 15))⟩,
         ⟨(some 17), none, .op (.field 5 (.tmp 16))⟩,
         ⟨(some 18), none, .op (.load none (.tmp 17))⟩,
         ⟨(some 19), none, .op (.bin .add (.tmp 18) (.const (.int .i64 1)))⟩,
         ⟨(some 20), none, .op (.nilc (.tmp 14))⟩,
         ⟨(some 21), none, .op (.field 5 (.tmp 20))⟩,
         ⟨none, none, .op (.store 1 (.tmp 21) (.tmp 19))⟩])
       (.skip)))
     (.seq
      (.region [⟨(some 22), none, .op (.move (.tmp 6))⟩,
        ⟨(some 4), none, .op (.move (.tmp 22))⟩])
      (.ret))))
def r18 : List LRes := [.tmp 4]
theorem body18 : Try.f18.body.bind (compileC Try.prog) = some c18 := by kernel_rfl
theorem res18 : compileRes Try.prog Try.f18.results.toList = some r18 := by kernel_rfl
theorem has18 : hasBody Try.prog 18 = true := by kernel_rfl
theorem enter18 {args : LVals} {h : LHeap} {R : LEnd → LHeap → Prop} (hk : 23 - lvsLen args = 21) (hw : initK args 21 fun t => lwp Try.prog h.length c18 (bodyQ r18 R) t h) : LCalls Try.prog 18 args h R := LCalls.enter Try.func18 body18 has18 res18 _ (by rw [Try.ntmps18]; exact hk) hw
/-- (*palatine/palatineref20.Net).Double -/
def c19 : LCode :=
  .seq
   (.region [⟨(some 4), none, .op (.move (.const (.int .i64 0)))⟩])
   (.seq
    (.seq
     (.region [⟨(some 5), none, .op (.move (.tmp 1))⟩,
       ⟨(some 6), none, .op (.bin .lss (.tmp 5) (.const (.int .i64 0)))⟩,
       ⟨(some 7), none, .op (.move (.tmp 6))⟩,
       ⟨(some 8), some (7, false), .op (.move (.tmp 1))⟩,
       ⟨(some 9), some (7, false), .op (.move (.tmp 0))⟩,
       ⟨(some 10), some (7, false), .op (.nilc (.tmp 9))⟩,
       ⟨(some 11), some (7, false), .op (.field 1 (.tmp 10))⟩,
       ⟨(some 12), some (7, false), .op (.load none (.tmp 11))⟩,
       ⟨(some 13), some (7, false), .op (.lenSl (.tmp 12))⟩,
       ⟨(some 14), some (7, false), .op (.bin .geq (.tmp 8) (.tmp 13))⟩,
       ⟨(some 15), none, .op (.pick (.tmp 7) (.const (.bool true)) (.tmp 14))⟩])
     (.cond (.tmp 15)
      (.seq
       (.region [⟨(some 4), none, .op (.move (.const (.int .i64 1)))⟩])
       (.ret))
      (.skip)))
    (.seq
     (.seq
      (.region [⟨(some 16), none, .op (.move (.tmp 0))⟩,
        ⟨(some 17), none, .op (.nilc (.tmp 16))⟩,
        ⟨(some 18), none, .op (.field 1 (.tmp 17))⟩,
        ⟨(some 19), none, .op (.load none (.tmp 18))⟩,
        ⟨(some 20), none, .op (.lenSl (.tmp 19))⟩,
        ⟨(some 21), none, .op (.bin .geq (.tmp 20) (.const (.int .i64 100)))⟩])
      (.cond (.tmp 21)
       (.seq
        (.region [⟨(some 4), none, .op (.move (.const (.int .i64 3)))⟩])
        (.ret))
       (.skip)))
     (.seq
      (.draws [(0, [], ⟨(some 22), none, .op (.move (.tmp 0))⟩),
        (1, [0], ⟨(some 23), none, .op (.move (.tmp 0))⟩),
        (2, [0], ⟨(some 24), none, .op (.nilc (.tmp 23))⟩),
        (3, [0], ⟨(some 25), none, .op (.field 1 (.tmp 24))⟩),
        (4, [0], ⟨(some 26), none, .op (.load none (.tmp 25))⟩),
        (5, [0, 1, 2, 3, 4], ⟨(some 27), none, .op (.move (.tmp 0))⟩),
        (6, [0, 1, 2, 3, 4], ⟨(some 28), none, .op (.nilc (.tmp 27))⟩),
        (7, [0, 1, 2, 3, 4], ⟨(some 29), none, .op (.field 1 (.tmp 28))⟩),
        (8, [0, 1, 2, 3, 4], ⟨(some 30), none, .op (.load none (.tmp 29))⟩),
        (9, [0, 1, 2, 3, 4, 5, 6, 7, 8], ⟨(some 31), none, .op (.move (.tmp 1))⟩),
        (10, [0, 1, 2, 3, 4], ⟨(some 32), none, .op (.idxSl 3 (.tmp 30) (.tmp 31))⟩),
        (11, [0, 1, 2, 3, 4], ⟨(some 33), none, .op (.load (some 3) (.tmp 32))⟩),
        (12, [0, 1, 2, 3, 4], ⟨(some 34), none, .op (.bsl 3 1 34 (.one (.int .i64 0) (.one (.int .i64 0) (.one (.str ⟨#[]⟩) .nil))) [(0, (.tmp 33))])⟩),
        (13, [0], ⟨(some 35), none, .op (.app 3 32 34 (.tmp 26) (.tmp 34))⟩),
        (14, [], ⟨(some 36), none, .op (.nilc (.tmp 22))⟩),
        (15, [], ⟨(some 37), none, .op (.field 1 (.tmp 36))⟩),
        (16, [], ⟨none, none, .op (.store 1 (.tmp 37) (.tmp 35))⟩)])
      (.seq
       (.region [⟨(some 38), none, .op (.move (.tmp 0))⟩,
         ⟨(some 39), none, .op (.move (.tmp 0))⟩,
         ⟨(some 40), none, .op (.nilc (.tmp 39))⟩,
         ⟨(some 41), none, .op (.field 3 (.tmp 40))⟩,
         ⟨(some 42), none, .op (.load none (.tmp 41))⟩,
         ⟨(some 43), none, .op (.bin .add (.tmp 42) (.const (.int .i64 1)))⟩,
         ⟨(some 44), none, .op (.nilc (.tmp 38))⟩,
         ⟨(some 45), none, .op (.field 3 (.tmp 44))⟩,
         ⟨none, none, .op (.store 1 (.tmp 45) (.tmp 43))⟩])
       (.seq
        (.region [⟨(some 4), none, .op (.move (.const (.int .i64 0)))⟩])
        (.ret))))))
def r19 : List LRes := [.tmp 4]
theorem body19 : Try.f19.body.bind (compileC Try.prog) = some c19 := by kernel_rfl
theorem res19 : compileRes Try.prog Try.f19.results.toList = some r19 := by kernel_rfl
theorem has19 : hasBody Try.prog 19 = true := by kernel_rfl
theorem enter19 {args : LVals} {h : LHeap} {R : LEnd → LHeap → Prop} (hk : 46 - lvsLen args = 44) (hw : initK args 44 fun t => lwp Try.prog h.length c19 (bodyQ r19 R) t h) : LCalls Try.prog 19 args h R := LCalls.enter Try.func19 body19 has19 res19 _ (by rw [Try.ntmps19]; exact hk) hw
/-- slices.Clone[[]palatine/api.Letter,palatine/api.Letter] -/
def c20 : LCode :=
  .seq
   (.region [⟨(some 2), none, .op (.move (.const (.slice ⟨0, [], 0⟩ 0 0 0 0 (some 0))))⟩])
   (.seq
    (.seq
     (.region [⟨(some 3), none, .op (.move (.tmp 0))⟩,
       ⟨(some 4), none, .op (.slNil false (.tmp 3))⟩])
     (.cond (.tmp 4)
      (.seq
       (.region [⟨(some 2), none, .op (.move (.const (.slice ⟨0, [], 0⟩ 0 0 0 0 (some 0))))⟩])
       (.ret))
      (.skip)))
    (.seq
     (.region [⟨(some 5), none, .op (.bsl 3 0 34 (.one (.int .i64 0) (.one (.int .i64 0) (.one (.str ⟨#[]⟩) .nil))) [])⟩,
       ⟨(some 6), none, .op (.move (.tmp 0))⟩,
       ⟨(some 7), none, .op (.app 3 32 34 (.tmp 5) (.tmp 6))⟩,
       ⟨(some 2), none, .op (.move (.tmp 7))⟩])
     (.ret)))
def r20 : List LRes := [.tmp 2]
theorem body20 : Try.f20.body.bind (compileC Try.prog) = some c20 := by kernel_rfl
theorem res20 : compileRes Try.prog Try.f20.results.toList = some r20 := by kernel_rfl
theorem has20 : hasBody Try.prog 20 = true := by kernel_rfl
theorem enter20 {args : LVals} {h : LHeap} {R : LEnd → LHeap → Prop} (hk : 8 - lvsLen args = 7) (hw : initK args 7 fun t => lwp Try.prog h.length c20 (bodyQ r20 R) t h) : LCalls Try.prog 20 args h R := LCalls.enter Try.func20 body20 has20 res20 _ (by rw [Try.ntmps20]; exact hk) hw
/-- (*sync/atomic.Int64).Load -/
def c21 : LCode :=
  .seq
   (.region [⟨(some 2), none, .op (.move (.const (.int .i64 0)))⟩])
   (.seq
    (.region [⟨(some 3), none, .op (.move (.tmp 0))⟩,
      ⟨(some 4), none, .op (.nilc (.tmp 3))⟩,
      ⟨(some 5), none, .op (.field 0 (.tmp 4))⟩,
      ⟨(some 6), none, .op (.atLoad (.tmp 5))⟩,
      ⟨(some 2), none, .op (.move (.tmp 6))⟩])
    (.ret))
def r21 : List LRes := [.tmp 2]
theorem body21 : Try.f21.body.bind (compileC Try.prog) = some c21 := by kernel_rfl
theorem res21 : compileRes Try.prog Try.f21.results.toList = some r21 := by kernel_rfl
theorem has21 : hasBody Try.prog 21 = true := by kernel_rfl
theorem enter21 {args : LVals} {h : LHeap} {R : LEnd → LHeap → Prop} (hk : 7 - lvsLen args = 6) (hw : initK args 6 fun t => lwp Try.prog h.length c21 (bodyQ r21 R) t h) : LCalls Try.prog 21 args h R := LCalls.enter Try.func21 body21 has21 res21 _ (by rw [Try.ntmps21]; exact hk) hw
/-- (*palatine/net.Net).Send$1 -/
def c22 : LCode :=
  .seq
   (.region [⟨(some 3), none, .op (.move (.const (.bool false)))⟩])
   (.seq
    (.region [⟨(some 4), none, .op (.move (.tmp 0))⟩,
      ⟨(some 5), none, .op (.bin .geq (.tmp 4) (.const (.int .i64 0)))⟩,
      ⟨(some 6), none, .op (.move (.tmp 5))⟩,
      ⟨(some 7), some (6, true), .op (.move (.tmp 0))⟩,
      ⟨(some 8), some (6, true), .op (.load none (.tmp 1))⟩,
      ⟨(some 9), some (6, true), .op (.nilc (.tmp 8))⟩,
      ⟨(some 10), some (6, true), .op (.field 0 (.tmp 9))⟩,
      ⟨(some 11), some (6, true), .op (.load none (.tmp 10))⟩,
      ⟨(some 12), some (6, true), .op (.bin .lss (.tmp 7) (.tmp 11))⟩,
      ⟨(some 13), none, .op (.pick (.tmp 6) (.tmp 12) (.const (.bool false)))⟩,
      ⟨(some 3), none, .op (.move (.tmp 13))⟩])
    (.ret))
def r22 : List LRes := [.tmp 3]
theorem body22 : Try.f22.body.bind (compileC Try.prog) = some c22 := by kernel_rfl
theorem res22 : compileRes Try.prog Try.f22.results.toList = some r22 := by kernel_rfl
theorem has22 : hasBody Try.prog 22 = true := by kernel_rfl
theorem enter22 {args : LVals} {h : LHeap} {R : LEnd → LHeap → Prop} (hk : 14 - lvsLen args = 12) (hw : initK args 12 fun t => lwp Try.prog h.length c22 (bodyQ r22 R) t h) : LCalls Try.prog 22 args h R := LCalls.enter Try.func22 body22 has22 res22 _ (by rw [Try.ntmps22]; exact hk) hw
/-- (*sync/atomic.Int64).Add -/
def c23 : LCode :=
  .seq
   (.region [⟨(some 4), none, .op (.move (.const (.int .i64 0)))⟩])
   (.seq
    (.region [⟨(some 5), none, .op (.move (.tmp 0))⟩,
      ⟨(some 6), none, .op (.nilc (.tmp 5))⟩,
      ⟨(some 7), none, .op (.field 0 (.tmp 6))⟩,
      ⟨(some 8), none, .op (.move (.tmp 1))⟩,
      ⟨(some 9), none, .op (.atAdd (.tmp 7) (.tmp 8))⟩,
      ⟨(some 4), none, .op (.move (.tmp 9))⟩])
    (.ret))
def r23 : List LRes := [.tmp 4]
theorem body23 : Try.f23.body.bind (compileC Try.prog) = some c23 := by kernel_rfl
theorem res23 : compileRes Try.prog Try.f23.results.toList = some r23 := by kernel_rfl
theorem has23 : hasBody Try.prog 23 = true := by kernel_rfl
theorem enter23 {args : LVals} {h : LHeap} {R : LEnd → LHeap → Prop} (hk : 10 - lvsLen args = 8) (hw : initK args 8 fun t => lwp Try.prog h.length c23 (bodyQ r23 R) t h) : LCalls Try.prog 23 args h R := LCalls.enter Try.func23 body23 has23 res23 _ (by rw [Try.ntmps23]; exact hk) hw
/-- (*palatine/net.Net).take -/
def c24 : LCode :=
  .seq
   (.region [⟨(some 4), none, .op (.alloc 34 (.one (.int .i64 0) (.one (.int .i64 0) (.one (.str ⟨#[]⟩) .nil))))⟩,
     ⟨(some 5), none, .op (.move (.const (.bool false)))⟩])
   (.seq
    (.seq
     (.region [⟨(some 7), none, .op (.move (.tmp 1))⟩,
       ⟨(some 8), none, .op (.bin .lss (.tmp 7) (.const (.int .i64 0)))⟩,
       ⟨(some 9), none, .op (.move (.tmp 8))⟩,
       ⟨(some 10), some (9, false), .op (.move (.tmp 1))⟩,
       ⟨(some 11), some (9, false), .op (.move (.tmp 0))⟩,
       ⟨(some 12), some (9, false), .op (.nilc (.tmp 11))⟩,
       ⟨(some 13), some (9, false), .op (.field 1 (.tmp 12))⟩,
       ⟨(some 14), some (9, false), .op (.load none (.tmp 13))⟩,
       ⟨(some 15), some (9, false), .op (.lenSl (.tmp 14))⟩,
       ⟨(some 16), some (9, false), .op (.bin .geq (.tmp 10) (.tmp 15))⟩,
       ⟨(some 17), none, .op (.pick (.tmp 9) (.const (.bool true)) (.tmp 16))⟩])
     (.cond (.tmp 17)
      (.seq
       (.region [⟨(some 18), none, .op (.bst (.one (.int .i64 0) (.one (.int .i64 0) (.one (.str ⟨#[]⟩) .nil))) [])⟩,
         ⟨none, none, .op (.store 3 (.tmp 4) (.tmp 18))⟩,
         ⟨(some 5), none, .op (.move (.const (.bool false)))⟩])
       (.ret))
      (.skip)))
    (.seq
     (.region [⟨(some 19), none, .op (.move (.tmp 0))⟩,
       ⟨(some 20), none, .op (.nilc (.tmp 19))⟩,
       ⟨(some 21), none, .op (.field 1 (.tmp 20))⟩,
       ⟨(some 22), none, .op (.load none (.tmp 21))⟩,
       ⟨(some 23), none, .op (.move (.tmp 1))⟩,
       ⟨(some 24), none, .op (.idxSl 3 (.tmp 22) (.tmp 23))⟩,
       ⟨(some 25), none, .op (.load (some 3) (.tmp 24))⟩,
       ⟨(some 6), none, .op (.alloc 34 (.one (.int .i64 0) (.one (.int .i64 0) (.one (.str ⟨#[]⟩) .nil))))⟩,
       ⟨none, none, .op (.store 3 (.tmp 6) (.tmp 25))⟩])
     (.seq
      (.region [⟨(some 26), none, .op (.move (.tmp 0))⟩,
        ⟨(some 27), none, .op (.move (.tmp 0))⟩,
        ⟨(some 28), none, .op (.nilc (.tmp 27))⟩,
        ⟨(some 29), none, .op (.field 1 (.tmp 28))⟩,
        ⟨(some 30), none, .op (.load none (.tmp 29))⟩,
        ⟨(some 31), none, .op (.move (.tmp 1))⟩,
        ⟨(some 32), none, .op (.move (.tmp 1))⟩,
        ⟨(some 33), none, .op (.bin .add (.tmp 32) (.const (.int .i64 1)))⟩,
        ⟨(some 34), none, .call 28 [(.tmp 30), (.tmp 31), (.tmp 33)]⟩,
        ⟨(some 35), none, .op (.nilc (.tmp 26))⟩,
        ⟨(some 36), none, .op (.field 1 (.tmp 35))⟩,
        ⟨none, none, .op (.store 1 (.tmp 36) (.tmp 34))⟩])
      (.seq
       (.region [⟨(some 37), none, .op (.load (some 3) (.tmp 6))⟩,
         ⟨none, none, .op (.store 3 (.tmp 4) (.tmp 37))⟩,
         ⟨(some 5), none, .op (.move (.const (.bool true)))⟩])
       (.ret)))))
def r24 : List LRes := [.cell 4 (some 3), .tmp 5]
theorem body24 : Try.f24.body.bind (compileC Try.prog) = some c24 := by kernel_rfl
theorem res24 : compileRes Try.prog Try.f24.results.toList = some r24 := by kernel_rfl
theorem has24 : hasBody Try.prog 24 = true := by kernel_rfl
theorem enter24 {args : LVals} {h : LHeap} {R : LEnd → LHeap → Prop} (hk : 38 - lvsLen args = 36) (hw : initK args 36 fun t => lwp Try.prog h.length c24 (bodyQ r24 R) t h) : LCalls Try.prog 24 args h R := LCalls.enter Try.func24 body24 has24 res24 _ (by rw [Try.ntmps24]; exact hk) hw
/-- (*palatine/palatineref20.Net).take -/
def c25 : LCode :=
  .seq
   (.region [⟨(some 4), none, .op (.alloc 34 (.one (.int .i64 0) (.one (.int .i64 0) (.one (.str ⟨#[]⟩) .nil))))⟩,
     ⟨(some 5), none, .op (.move (.const (.bool false)))⟩])
   (.seq
    (.seq
     (.region [⟨(some 8), none, .op (.move (.tmp 1))⟩,
       ⟨(some 9), none, .op (.bin .lss (.tmp 8) (.const (.int .i64 0)))⟩,
       ⟨(some 10), none, .op (.move (.tmp 9))⟩,
       ⟨(some 11), some (10, false), .op (.move (.tmp 1))⟩,
       ⟨(some 12), some (10, false), .op (.move (.tmp 0))⟩,
       ⟨(some 13), some (10, false), .op (.nilc (.tmp 12))⟩,
       ⟨(some 14), some (10, false), .op (.field 1 (.tmp 13))⟩,
       ⟨(some 15), some (10, false), .op (.load none (.tmp 14))⟩,
       ⟨(some 16), some (10, false), .op (.lenSl (.tmp 15))⟩,
       ⟨(some 17), some (10, false), .op (.bin .geq (.tmp 11) (.tmp 16))⟩,
       ⟨(some 18), none, .op (.pick (.tmp 10) (.const (.bool true)) (.tmp 17))⟩])
     (.cond (.tmp 18)
      (.seq
       (.region [⟨(some 19), none, .op (.bst (.one (.int .i64 0) (.one (.int .i64 0) (.one (.str ⟨#[]⟩) .nil))) [])⟩,
         ⟨none, none, .op (.store 3 (.tmp 4) (.tmp 19))⟩,
         ⟨(some 5), none, .op (.move (.const (.bool false)))⟩])
       (.ret))
      (.skip)))
    (.seq
     (.region [⟨(some 20), none, .op (.move (.tmp 0))⟩,
       ⟨(some 21), none, .op (.nilc (.tmp 20))⟩,
       ⟨(some 22), none, .op (.field 1 (.tmp 21))⟩,
       ⟨(some 23), none, .op (.load none (.tmp 22))⟩,
       ⟨(some 24), none, .op (.move (.tmp 1))⟩,
       ⟨(some 25), none, .op (.idxSl 3 (.tmp 23) (.tmp 24))⟩,
       ⟨(some 26), none, .op (.load (some 3) (.tmp 25))⟩,
       ⟨(some 6), none, .op (.alloc 34 (.one (.int .i64 0) (.one (.int .i64 0) (.one (.str ⟨#[]⟩) .nil))))⟩,
       ⟨none, none, .op (.store 3 (.tmp 6) (.tmp 26))⟩])
     (.seq
      (.region [⟨(some 27), none, .op (.bsl 3 0 34 (.one (.int .i64 0) (.one (.int .i64 0) (.one (.str ⟨#[]⟩) .nil))) [])⟩,
        ⟨(some 28), none, .op (.move (.tmp 0))⟩,
        ⟨(some 29), none, .op (.nilc (.tmp 28))⟩,
        ⟨(some 30), none, .op (.field 1 (.tmp 29))⟩,
        ⟨(some 31), none, .op (.load none (.tmp 30))⟩,
        ⟨(some 32), none, .op (.move (.tmp 1))⟩,
        ⟨(some 33), none, .op (.slSl 3 (.tmp 31) none (some (.tmp 32)))⟩,
        ⟨(some 34), none, .op (.app 3 32 34 (.tmp 27) (.tmp 33))⟩,
        ⟨(some 7), none, .op (.move (.tmp 34))⟩])
      (.seq
       (.region [⟨(some 35), none, .op (.move (.tmp 0))⟩,
         ⟨(some 36), none, .op (.move (.tmp 7))⟩,
         ⟨(some 37), none, .op (.move (.tmp 0))⟩,
         ⟨(some 38), none, .op (.nilc (.tmp 37))⟩,
         ⟨(some 39), none, .op (.field 1 (.tmp 38))⟩,
         ⟨(some 40), none, .op (.load none (.tmp 39))⟩,
         ⟨(some 41), none, .op (.move (.tmp 1))⟩,
         ⟨(some 42), none, .op (.bin .add (.tmp 41) (.const (.int .i64 1)))⟩,
         ⟨(some 43), none, .op (.slSl 3 (.tmp 40) (some (.tmp 42)) none)⟩,
         ⟨(some 44), none, .op (.app 3 32 34 (.tmp 36) (.tmp 43))⟩,
         ⟨(some 45), none, .op (.nilc (.tmp 35))⟩,
         ⟨(some 46), none, .op (.field 1 (.tmp 45))⟩,
         ⟨none, none, .op (.store 1 (.tmp 46) (.tmp 44))⟩])
       (.seq
        (.region [⟨(some 47), none, .op (.load (some 3) (.tmp 6))⟩,
          ⟨none, none, .op (.store 3 (.tmp 4) (.tmp 47))⟩,
          ⟨(some 5), none, .op (.move (.const (.bool true)))⟩])
        (.ret))))))
def r25 : List LRes := [.cell 4 (some 3), .tmp 5]
theorem body25 : Try.f25.body.bind (compileC Try.prog) = some c25 := by kernel_rfl
theorem res25 : compileRes Try.prog Try.f25.results.toList = some r25 := by kernel_rfl
theorem has25 : hasBody Try.prog 25 = true := by kernel_rfl
theorem enter25 {args : LVals} {h : LHeap} {R : LEnd → LHeap → Prop} (hk : 48 - lvsLen args = 46) (hw : initK args 46 fun t => lwp Try.prog h.length c25 (bodyQ r25 R) t h) : LCalls Try.prog 25 args h R := LCalls.enter Try.func25 body25 has25 res25 _ (by rw [Try.ntmps25]; exact hk) hw
/-- slices.Delete[[]palatine/api.Letter,palatine/api.Letter] -/
def c28 : LCode :=
  .seq
   (.region [⟨(some 6), none, .op (.move (.const (.slice ⟨0, [], 0⟩ 0 0 0 0 (some 0))))⟩])
   (.seq
    (.region [⟨(some 8), none, .op (.move (.tmp 0))⟩,
      ⟨(some 9), none, .op (.move (.tmp 1))⟩,
      ⟨(some 10), none, .op (.move (.tmp 2))⟩,
      ⟨(some 11), none, .op (.move (.tmp 0))⟩,
      ⟨(some 12), none, .op (.lenSl (.tmp 11))⟩,
      ⟨(some 13), none, .op (.slSl3 3 (.tmp 8) (some (.tmp 9)) (.tmp 10) (.tmp 12))⟩])
    (.seq
     (.seq
      (.region [⟨(some 14), none, .op (.move (.tmp 1))⟩,
        ⟨(some 15), none, .op (.move (.tmp 2))⟩,
        ⟨(some 16), none, .op (.bin .eql (.tmp 14) (.tmp 15))⟩])
      (.cond (.tmp 16)
       (.seq
        (.region [⟨(some 17), none, .op (.move (.tmp 0))⟩,
          ⟨(some 6), none, .op (.move (.tmp 17))⟩])
        (.ret))
       (.skip)))
     (.seq
      (.region [⟨(some 18), none, .op (.move (.tmp 0))⟩,
        ⟨(some 19), none, .op (.lenSl (.tmp 18))⟩,
        ⟨(some 7), none, .op (.move (.tmp 19))⟩])
      (.seq
       (.draws [(0, [], ⟨(some 20), none, .op (.move (.tmp 0))⟩),
         (1, [0], ⟨(some 21), none, .op (.move (.tmp 1))⟩),
         (2, [], ⟨(some 22), none, .op (.slSl 3 (.tmp 20) none (some (.tmp 21)))⟩),
         (3, [0, 1, 2], ⟨(some 23), none, .op (.move (.tmp 0))⟩),
         (4, [0, 1, 2, 3], ⟨(some 24), none, .op (.move (.tmp 2))⟩),
         (5, [0, 1, 2], ⟨(some 25), none, .op (.slSl 3 (.tmp 23) (some (.tmp 24)) none)⟩),
         (6, [], ⟨(some 26), none, .op (.app 3 32 34 (.tmp 22) (.tmp 25))⟩),
         (7, [], ⟨(some 0), none, .op (.move (.tmp 26))⟩)])
       (.seq
        (.region [⟨(some 27), none, .op (.move (.tmp 0))⟩,
          ⟨(some 28), none, .op (.move (.tmp 0))⟩,
          ⟨(some 29), none, .op (.lenSl (.tmp 28))⟩,
          ⟨(some 30), none, .op (.move (.tmp 7))⟩,
          ⟨(some 31), none, .op (.slSl 3 (.tmp 27) (some (.tmp 29)) (some (.tmp 30)))⟩,
          ⟨none, none, .op (.clear 3 (.one (.int .i64 0) (.one (.int .i64 0) (.one (.str ⟨#[]⟩) .nil))) (.tmp 31))⟩])
        (.seq
         (.region [⟨(some 32), none, .op (.move (.tmp 0))⟩,
           ⟨(some 6), none, .op (.move (.tmp 32))⟩])
         (.ret)))))))
def r28 : List LRes := [.tmp 6]
theorem body28 : Try.f28.body.bind (compileC Try.prog) = some c28 := by kernel_rfl
theorem res28 : compileRes Try.prog Try.f28.results.toList = some r28 := by kernel_rfl
theorem has28 : hasBody Try.prog 28 = true := by kernel_rfl
theorem enter28 {args : LVals} {h : LHeap} {R : LEnd → LHeap → Prop} (hk : 33 - lvsLen args = 30) (hw : initK args 30 fun t => lwp Try.prog h.length c28 (bodyQ r28 R) t h) : LCalls Try.prog 28 args h R := LCalls.enter Try.func28 body28 has28 res28 _ (by rw [Try.ntmps28]; exact hk) hw
end Go.Proofs.Ytnmbbkhjbflojaa.Net
