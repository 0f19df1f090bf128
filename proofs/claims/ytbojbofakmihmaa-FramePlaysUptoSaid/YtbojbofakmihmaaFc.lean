/- Functions' codes on the heap of the mind. Written by a program of this session. -/
import Derived.Test.YtbojbofakmihmaaProg
import Derived.Test.YtbojbofakmihmaaLh17
namespace Go.Proofs.Ytbojbofakmihmaa.Fk
open Go.Proofs.Ytbojbofakmihmaa.Lh
set_option maxRecDepth 100000
set_option linter.unusedSectionVars false
variable [Fz]
/-- (*palatine/frame.Frames).whole -/
def c43 : LCode :=
  .seq
   (.region [⟨(some 1), none, .op (.box 24 1 (.tmp 0))⟩,
     ⟨(some 2), none, .op (.move (.const .nilf))⟩])
   (.seq
    (.region [⟨(some 3), none, .op (.mkFunc 68 [(.tmp 1)])⟩,
      ⟨(some 2), none, .op (.move (.tmp 3))⟩])
    (.ret))
def r43 : List LRes := [.tmp 2]
theorem body43 : Try.f43.body.bind (compileC Try.prog) = some c43 := by kernel_rfl
theorem res43 : compileRes Try.prog Try.f43.results.toList = some r43 := by kernel_rfl
theorem has43 : hasBody Try.prog 43 = true := by kernel_rfl
theorem enter43 {args : LVals} {h : LHeap} {R : LEnd → LHeap → Prop} (hk : 4 - lvsLen args = 3) (hw : initK args 3 fun t => lwp Try.prog h.length c43 (bodyQ r43 R) t h) : LCalls Try.prog 43 args h R := LCalls.enter Try.func43 body43 has43 res43 _ (by rw [Try.ntmps43]; exact hk) hw
/-- (*palatine/frame.Frames).whole$1 -/
def c68 : LCode :=
  .block 0
   (.loop
    (.block 1
     (.seq
      (.region [⟨(some 7), none, .op (.load none (.tmp 1))⟩,
        ⟨(some 8), none, .op (.nilc (.tmp 7))⟩,
        ⟨(some 9), none, .op (.field 0 (.tmp 8))⟩,
        ⟨(some 10), none, .op (.load none (.tmp 9))⟩,
        ⟨(some 11), none, .call 69 [(.tmp 10)]⟩,
        ⟨(some 6), none, .op (.move (.tmp 11))⟩,
        ⟨(some 12), none, .op (.ext 0 (.tmp 6))⟩,
        ⟨(some 13), none, .op (.ext 1 (.tmp 6))⟩,
        ⟨(some 3), none, .op (.move (.tmp 12))⟩,
        ⟨(some 4), none, .op (.move (.tmp 13))⟩])
      (.seq
       (.region [⟨(some 14), none, .op (.load none (.tmp 1))⟩,
         ⟨(some 15), none, .op (.move (.tmp 4))⟩,
         ⟨(some 16), none, .op (.bin .eql (.tmp 15) (.const (.int .i64 100)))⟩,
         ⟨(some 17), none, .op (.nilc (.tmp 14))⟩,
         ⟨(some 18), none, .op (.field 1 (.tmp 17))⟩,
         ⟨none, none, .op (.store 1 (.tmp 18) (.tmp 16))⟩])
       (.seq
        (.seq
         (.region [⟨(some 19), none, .op (.move (.tmp 4))⟩,
           ⟨(some 20), none, .op (.bin .neq (.tmp 19) (.const (.int .i64 0)))⟩])
         (.cond (.tmp 20)
          (.ret)
          (.skip)))
        (.seq
         (.region [⟨(some 21), none, .op (.load none (.tmp 1))⟩,
           ⟨(some 22), none, .op (.nilc (.tmp 21))⟩,
           ⟨(some 23), none, .op (.field 0 (.tmp 22))⟩,
           ⟨(some 24), none, .op (.load none (.tmp 23))⟩,
           ⟨(some 25), none, .op (.move (.tmp 3))⟩,
           ⟨(some 26), none, .op (.slStr (.tmp 24) none (some (.tmp 25)))⟩,
           ⟨(some 5), none, .op (.move (.tmp 26))⟩])
         (.seq
          (.draws [(0, [], ⟨(some 27), none, .op (.load none (.tmp 1))⟩),
            (1, [0], ⟨(some 28), none, .op (.load none (.tmp 1))⟩),
            (2, [0], ⟨(some 29), none, .op (.nilc (.tmp 28))⟩),
            (3, [0], ⟨(some 30), none, .op (.field 0 (.tmp 29))⟩),
            (4, [0], ⟨(some 31), none, .op (.load none (.tmp 30))⟩),
            (5, [0, 1, 2, 3, 4], ⟨(some 32), none, .op (.move (.tmp 3))⟩),
            (6, [0], ⟨(some 33), none, .op (.slStr (.tmp 31) (some (.tmp 32)) none)⟩),
            (7, [], ⟨(some 34), none, .op (.nilc (.tmp 27))⟩),
            (8, [], ⟨(some 35), none, .op (.field 0 (.tmp 34))⟩),
            (9, [], ⟨none, none, .op (.store 1 (.tmp 35) (.tmp 33))⟩)])
          (.seq
           (.region [⟨(some 36), none, .op (.move (.tmp 0))⟩,
             ⟨(some 37), none, .op (.move (.tmp 5))⟩,
             ⟨(some 38), none, .callv (.tmp 36) [(.tmp 37)]⟩,
             ⟨(some 39), none, .op (.un .not (.tmp 38))⟩])
           (.cond (.tmp 39)
            (.ret)
            (.skip))))))))))
def r68 : List LRes := []
theorem body68 : Try.f68.body.bind (compileC Try.prog) = some c68 := by kernel_rfl
theorem res68 : compileRes Try.prog Try.f68.results.toList = some r68 := by kernel_rfl
theorem has68 : hasBody Try.prog 68 = true := by kernel_rfl
theorem enter68 {args : LVals} {h : LHeap} {R : LEnd → LHeap → Prop} (hk : 40 - lvsLen args = 38) (hw : initK args 38 fun t => lwp Try.prog h.length c68 (bodyQ r68 R) t h) : LCalls Try.prog 68 args h R := LCalls.enter Try.func68 body68 has68 res68 _ (by rw [Try.ntmps68]; exact hk) hw
theorem denter68 {args : LVals} {u : LMode} {h : LHeap} {K : LMode → LHeap → Prop} (hk : 40 - lvsLen args = 38) (hw : initK args 38 fun t => lwp Try.prog h.length c68 (dQ K u) t h) : LCallsD Try.prog 68 args u h K := LCallsD.enter Try.func68 body68 has68 res68 _ (by rw [Try.ntmps68]; exact hk) hw
/-- palatine/frame.long -/
def c69 : LCode :=
  .seq
   (.region [⟨(some 2), none, .op (.move (.const (.int .i64 0)))⟩,
     ⟨(some 3), none, .op (.move (.const (.int .i64 0)))⟩])
   (.seq
    (.seq
     (.region [⟨(some 8), none, .op (.move (.tmp 0))⟩,
       ⟨(some 9), none, .op (.bin .neq (.tmp 8) (.const (.str ⟨#[]⟩)))⟩,
       ⟨(some 10), none, .op (.move (.tmp 9))⟩,
       ⟨(some 11), some (10, true), .op (.move (.tmp 0))⟩,
       ⟨(some 12), some (10, true), .op (.idxStr (.tmp 11) (.const (.int .i64 0)))⟩,
       ⟨(some 13), some (10, true), .op (.bin .neq (.tmp 12) (.const (.int .u8 48)))⟩,
       ⟨(some 14), none, .op (.pick (.tmp 10) (.tmp 13) (.const (.bool false)))⟩])
     (.cond (.tmp 14)
      (.seq
       (.region [⟨(some 2), none, .op (.move (.const (.int .i64 0)))⟩,
         ⟨(some 3), none, .op (.move (.const (.int .i64 100)))⟩])
       (.ret))
      (.skip)))
    (.seq
     (.region [⟨(some 16), none, .op (.move (.tmp 0))⟩,
       ⟨(some 17), none, .call 30 [(.tmp 16)]⟩,
       ⟨(some 15), none, .op (.move (.tmp 17))⟩,
       ⟨(some 18), none, .op (.ext 0 (.tmp 15))⟩,
       ⟨(some 19), none, .op (.ext 1 (.tmp 15))⟩,
       ⟨(some 20), none, .op (.ext 2 (.tmp 15))⟩,
       ⟨(some 21), none, .op (.ext 3 (.tmp 15))⟩,
       ⟨(some 4), none, .op (.move (.tmp 18))⟩,
       ⟨(some 5), none, .op (.move (.tmp 19))⟩,
       ⟨(some 6), none, .op (.move (.tmp 20))⟩,
       ⟨(some 7), none, .op (.move (.tmp 21))⟩])
     (.seq
      (.block 0
       (.seq
        (.region [⟨(some 23), none, .op (.move (.tmp 7))⟩,
          ⟨(some 24), none, .op (.bin .eql (.tmp 23) (.const (.int .i64 0)))⟩,
          ⟨(some 25), none, .op (.move (.tmp 24))⟩,
          ⟨(some 26), some (25, true), .op (.move (.tmp 0))⟩,
          ⟨(some 27), some (25, true), .op (.lenStr (.tmp 26))⟩,
          ⟨(some 28), some (25, true), .op (.move (.tmp 6))⟩,
          ⟨(some 29), some (25, true), .op (.bin .sub (.tmp 27) (.tmp 28))⟩,
          ⟨(some 30), some (25, true), .op (.move (.tmp 5))⟩,
          ⟨(some 31), some (25, true), .op (.bin .lss (.tmp 29) (.tmp 30))⟩,
          ⟨(some 32), none, .op (.pick (.tmp 25) (.tmp 31) (.const (.bool false)))⟩,
          ⟨(some 22), none, .op (.move (.tmp 32))⟩])
        (.cond (.tmp 22)
         (.seq
          (.region [⟨(some 2), none, .op (.move (.const (.int .i64 0)))⟩,
            ⟨(some 3), none, .op (.move (.const (.int .i64 92)))⟩])
          (.ret))
         (.seq
          (.region [⟨(some 34), none, .op (.move (.tmp 7))⟩,
            ⟨(some 35), none, .op (.bin .eql (.tmp 34) (.const (.int .i64 0)))⟩,
            ⟨(some 36), none, .op (.move (.tmp 35))⟩,
            ⟨(some 37), some (36, false), .op (.move (.tmp 7))⟩,
            ⟨(some 38), some (36, false), .op (.bin .eql (.tmp 37) (.const (.int .i64 92)))⟩,
            ⟨(some 39), none, .op (.pick (.tmp 36) (.const (.bool true)) (.tmp 38))⟩,
            ⟨(some 33), none, .op (.move (.tmp 39))⟩])
          (.cond (.tmp 33)
           (.seq
            (.region [⟨(some 40), none, .op (.move (.tmp 6))⟩,
              ⟨(some 41), none, .op (.move (.tmp 5))⟩,
              ⟨(some 42), none, .op (.bin .add (.tmp 40) (.tmp 41))⟩,
              ⟨(some 43), none, .op (.move (.tmp 7))⟩,
              ⟨(some 2), none, .op (.move (.tmp 42))⟩,
              ⟨(some 3), none, .op (.move (.tmp 43))⟩])
            (.ret))
           (.skip))))))
      (.seq
       (.region [⟨(some 2), none, .op (.move (.const (.int .i64 0)))⟩,
         ⟨(some 3), none, .op (.move (.const (.int .i64 100)))⟩])
       (.ret)))))
def r69 : List LRes := [.tmp 2, .tmp 3]
theorem body69 : Try.f69.body.bind (compileC Try.prog) = some c69 := by kernel_rfl
theorem res69 : compileRes Try.prog Try.f69.results.toList = some r69 := by kernel_rfl
theorem has69 : hasBody Try.prog 69 = true := by kernel_rfl
theorem enter69 {args : LVals} {h : LHeap} {R : LEnd → LHeap → Prop} (hk : 44 - lvsLen args = 43) (hw : initK args 43 fun t => lwp Try.prog h.length c69 (bodyQ r69 R) t h) : LCalls Try.prog 69 args h R := LCalls.enter Try.func69 body69 has69 res69 _ (by rw [Try.ntmps69]; exact hk) hw
/-- palatine/frame.New -/
def c19 : LCode :=
  .seq
   (.region [⟨(some 0), none, .op (.move (.const .nilp))⟩])
   (.seq
    (.region [⟨(some 1), none, .op (.bst (.one (.str ⟨#[]⟩) (.one (.bool false) .nil)) [])⟩,
      ⟨(some 2), none, .op (.box 70 2 (.tmp 1))⟩,
      ⟨(some 0), none, .op (.move (.tmp 2))⟩])
    (.ret))
def r19 : List LRes := [.tmp 0]
theorem body19 : Try.f19.body.bind (compileC Try.prog) = some c19 := by kernel_rfl
theorem res19 : compileRes Try.prog Try.f19.results.toList = some r19 := by kernel_rfl
theorem has19 : hasBody Try.prog 19 = true := by kernel_rfl
theorem enter19 {args : LVals} {h : LHeap} {R : LEnd → LHeap → Prop} (hk : 3 - lvsLen args = 3) (hw : initK args 3 fun t => lwp Try.prog h.length c19 (bodyQ r19 R) t h) : LCalls Try.prog 19 args h R := LCalls.enter Try.func19 body19 has19 res19 _ (by rw [Try.ntmps19]; exact hk) hw
/-- (*palatine/frame.Frames).Feed -/
def b20 : LBodyR :=
  (.seq
   (
    .region [⟨(some 4), none, .op (.alloc 22 (.one (.slice ⟨0, [], 0⟩ 0 0 0 0 (some 0)) .nil))⟩,
      ⟨(some 5), none, .op (.move (.const (.int .i64 0)))⟩])
   (.seq
    (
     .seq
      (.region [⟨(some 7), none, .op (.move (.tmp 0))⟩,
        ⟨(some 8), none, .op (.nilc (.tmp 7))⟩,
        ⟨(some 9), none, .op (.field 1 (.tmp 8))⟩,
        ⟨(some 10), none, .op (.load none (.tmp 9))⟩])
      (.cond (.tmp 10)
       (.seq
        (.region [⟨none, none, .op (.store 1 (.tmp 4) (.const (.slice ⟨0, [], 0⟩ 0 0 0 0 (some 0))))⟩,
          ⟨(some 5), none, .op (.move (.const (.int .i64 100)))⟩])
        (.ret))
       (.skip)))
    (.seq
     (
      .region [⟨(some 11), none, .op (.move (.tmp 0))⟩,
        ⟨(some 12), none, .op (.nilc (.tmp 11))⟩,
        ⟨(some 13), none, .op (.field 0 (.tmp 12))⟩,
        ⟨(some 14), none, .op (.load none (.tmp 13))⟩,
        ⟨(some 15), none, .op (.move (.tmp 1))⟩,
        ⟨(some 16), none, .op (.bin .add (.tmp 14) (.tmp 15))⟩,
        ⟨(some 17), none, .op (.nilc (.tmp 11))⟩,
        ⟨(some 18), none, .op (.field 0 (.tmp 17))⟩,
        ⟨none, none, .op (.store 1 (.tmp 18) (.tmp 16))⟩])
     (.seq
      (
       .region [⟨(some 19), none, .op (.move (.tmp 0))⟩,
         ⟨(some 20), none, .call 43 [(.tmp 19)]⟩])
      (.range (.tmp 20) [21]
       (
        .region [⟨(some 6), none, .op (.move (.tmp 21))⟩])
       (
        .block 1
         (.region [⟨(some 22), none, .op (.load none (.tmp 4))⟩,
           ⟨(some 23), none, .op (.move (.tmp 6))⟩,
           ⟨(some 24), none, .op (.bsl 1 1 9 (.one (.str ⟨#[]⟩) .nil) [(0, (.tmp 23))])⟩,
           ⟨(some 25), none, .op (.app 1 16 9 (.tmp 22) (.tmp 24))⟩,
           ⟨none, none, .op (.store 1 (.tmp 4) (.tmp 25))⟩]))
       (.seq
        (
         .seq
          (.region [⟨(some 26), none, .op (.move (.tmp 0))⟩,
            ⟨(some 27), none, .op (.nilc (.tmp 26))⟩,
            ⟨(some 28), none, .op (.field 1 (.tmp 27))⟩,
            ⟨(some 29), none, .op (.load none (.tmp 28))⟩])
          (.cond (.tmp 29)
           (.seq
            (.region [⟨(some 30), none, .op (.move (.tmp 0))⟩,
              ⟨(some 31), none, .op (.nilc (.tmp 30))⟩,
              ⟨(some 32), none, .op (.field 0 (.tmp 31))⟩,
              ⟨none, none, .op (.store 1 (.tmp 32) (.const (.str ⟨#[]⟩)))⟩])
            (.seq
             (.region [⟨(some 33), none, .op (.load none (.tmp 4))⟩,
               ⟨none, none, .op (.store 1 (.tmp 4) (.tmp 33))⟩,
               ⟨(some 5), none, .op (.move (.const (.int .i64 100)))⟩])
             (.ret)))
           (.skip)))
        (.seq
         (
          .region [⟨(some 34), none, .op (.load none (.tmp 4))⟩,
            ⟨none, none, .op (.store 1 (.tmp 4) (.tmp 34))⟩,
            ⟨(some 5), none, .op (.move (.const (.int .i64 0)))⟩])
         (.code
          (
           .ret)))))))))
def r20 : List LRes := [.cell 4 none, .tmp 5]
theorem body20 : Try.f20.body.bind (compileBR2 Try.prog) = some b20 := by kernel_rfl
theorem res20 : compileRes Try.prog Try.f20.results.toList = some r20 := by kernel_rfl
theorem has20 : hasBody Try.prog 20 = true := by kernel_rfl
theorem enter20 {args : LVals} {h : LHeap} {R : LEnd → LHeap → Prop} (hk : 35 - lvsLen args = 33) (hw : initK args 33 fun t => bwpR Try.prog h.length [] b20 (endQR r20 R) t h) : LCalls Try.prog 20 args h R := LCalls.enterRg2 Try.func20 body20 has20 res20 _ (by rw [Try.ntmps20]; exact hk) hw
/-- (*palatine/frame.Frames).Waiting -/
def c23 : LCode :=
  .seq
   (.region [⟨(some 2), none, .op (.move (.const (.int .i64 0)))⟩])
   (.seq
    (.region [⟨(some 3), none, .op (.move (.tmp 0))⟩,
      ⟨(some 4), none, .op (.nilc (.tmp 3))⟩,
      ⟨(some 5), none, .op (.field 0 (.tmp 4))⟩,
      ⟨(some 6), none, .op (.load none (.tmp 5))⟩,
      ⟨(some 7), none, .op (.lenStr (.tmp 6))⟩,
      ⟨(some 2), none, .op (.move (.tmp 7))⟩])
    (.ret))
def r23 : List LRes := [.tmp 2]
theorem body23 : Try.f23.body.bind (compileC Try.prog) = some c23 := by kernel_rfl
theorem res23 : compileRes Try.prog Try.f23.results.toList = some r23 := by kernel_rfl
theorem has23 : hasBody Try.prog 23 = true := by kernel_rfl
theorem enter23 {args : LVals} {h : LHeap} {R : LEnd → LHeap → Prop} (hk : 8 - lvsLen args = 7) (hw : initK args 7 fun t => lwp Try.prog h.length c23 (bodyQ r23 R) t h) : LCalls Try.prog 23 args h R := LCalls.enter Try.func23 body23 has23 res23 _ (by rw [Try.ntmps23]; exact hk) hw
/-- (*palatine/frame.Frames).Dead -/
def c24 : LCode :=
  .seq
   (.region [⟨(some 2), none, .op (.move (.const (.bool false)))⟩])
   (.seq
    (.region [⟨(some 3), none, .op (.move (.tmp 0))⟩,
      ⟨(some 4), none, .op (.nilc (.tmp 3))⟩,
      ⟨(some 5), none, .op (.field 1 (.tmp 4))⟩,
      ⟨(some 6), none, .op (.load none (.tmp 5))⟩,
      ⟨(some 2), none, .op (.move (.tmp 6))⟩])
    (.ret))
def r24 : List LRes := [.tmp 2]
theorem body24 : Try.f24.body.bind (compileC Try.prog) = some c24 := by kernel_rfl
theorem res24 : compileRes Try.prog Try.f24.results.toList = some r24 := by kernel_rfl
theorem has24 : hasBody Try.prog 24 = true := by kernel_rfl
theorem enter24 {args : LVals} {h : LHeap} {R : LEnd → LHeap → Prop} (hk : 7 - lvsLen args = 6) (hw : initK args 6 fun t => lwp Try.prog h.length c24 (bodyQ r24 R) t h) : LCalls Try.prog 24 args h R := LCalls.enter Try.func24 body24 has24 res24 _ (by rw [Try.ntmps24]; exact hk) hw
/-- palatine/palatinelaw10.awake -/
def c18 : LCode :=
  .seq
   (.region [⟨(some 0), none, .op (.move (.const (.bool false)))⟩])
   (.seq
    (.region [⟨(some 17), none, .call 19 []⟩,
      ⟨(some 1), none, .op (.move (.tmp 17))⟩])
    (.seq
     (.region [⟨(some 18), none, .call 19 []⟩,
       ⟨(some 2), none, .op (.move (.tmp 18))⟩])
     (.seq
      (.seq
       (.region [⟨(some 19), none, .op (.move (.tmp 1))⟩,
         ⟨(some 20), none, .op (.peq false (.tmp 19) (.const .nilp))⟩,
         ⟨(some 21), none, .op (.move (.tmp 20))⟩,
         ⟨(some 22), some (21, false), .op (.move (.tmp 2))⟩,
         ⟨(some 23), some (21, false), .op (.peq false (.tmp 22) (.const .nilp))⟩,
         ⟨(some 24), none, .op (.pick (.tmp 21) (.const (.bool true)) (.tmp 23))⟩])
       (.cond (.tmp 24)
        (.seq
         (.region [⟨(some 0), none, .op (.move (.const (.bool false)))⟩])
         (.ret))
        (.skip)))
      (.seq
       (.region [⟨(some 26), none, .op (.move (.tmp 1))⟩,
         ⟨(some 27), none, .call 20 [(.tmp 26), (.const (.str ⟨#[48]⟩))]⟩,
         ⟨(some 25), none, .op (.move (.tmp 27))⟩,
         ⟨(some 28), none, .op (.ext 0 (.tmp 25))⟩,
         ⟨(some 29), none, .op (.ext 1 (.tmp 25))⟩,
         ⟨(some 3), none, .op (.move (.tmp 28))⟩,
         ⟨(some 4), none, .op (.move (.tmp 29))⟩])
       (.seq
        (.region [⟨(some 30), none, .op (.move (.tmp 1))⟩,
          ⟨(some 31), none, .call 23 [(.tmp 30)]⟩,
          ⟨(some 5), none, .op (.move (.tmp 31))⟩])
        (.seq
         (.region [⟨(some 33), none, .op (.move (.tmp 1))⟩,
           ⟨(some 34), none, .call 20 [(.tmp 33), (.const (.str ⟨#[2, 5, 0, 48, 0, 48]⟩))]⟩,
           ⟨(some 32), none, .op (.move (.tmp 34))⟩,
           ⟨(some 35), none, .op (.ext 0 (.tmp 32))⟩,
           ⟨(some 36), none, .op (.ext 1 (.tmp 32))⟩,
           ⟨(some 6), none, .op (.move (.tmp 35))⟩,
           ⟨(some 7), none, .op (.move (.tmp 36))⟩])
         (.seq
          (.region [⟨(some 37), none, .op (.move (.tmp 1))⟩,
            ⟨(some 38), none, .call 23 [(.tmp 37)]⟩,
            ⟨(some 8), none, .op (.move (.tmp 38))⟩])
          (.seq
           (.region [⟨(some 40), none, .op (.move (.tmp 1))⟩,
             ⟨(some 41), none, .call 20 [(.tmp 40), (.const (.str ⟨#[128]⟩))]⟩,
             ⟨(some 39), none, .op (.move (.tmp 41))⟩,
             ⟨(some 42), none, .op (.ext 0 (.tmp 39))⟩,
             ⟨(some 43), none, .op (.ext 1 (.tmp 39))⟩,
             ⟨(some 9), none, .op (.move (.tmp 42))⟩,
             ⟨(some 10), none, .op (.move (.tmp 43))⟩])
           (.seq
            (.region [⟨(some 44), none, .op (.move (.tmp 1))⟩,
              ⟨(some 45), none, .call 24 [(.tmp 44)]⟩,
              ⟨(some 11), none, .op (.move (.tmp 45))⟩])
            (.seq
             (.region [⟨(some 47), none, .op (.move (.tmp 1))⟩,
               ⟨(some 48), none, .call 20 [(.tmp 47), (.const (.str ⟨#[48, 0]⟩))]⟩,
               ⟨(some 46), none, .op (.move (.tmp 48))⟩,
               ⟨(some 49), none, .op (.ext 0 (.tmp 46))⟩,
               ⟨(some 50), none, .op (.ext 1 (.tmp 46))⟩,
               ⟨(some 12), none, .op (.move (.tmp 49))⟩,
               ⟨(some 13), none, .op (.move (.tmp 50))⟩])
             (.seq
              (.region [⟨(some 52), none, .op (.move (.tmp 2))⟩,
                ⟨(some 53), none, .call 20 [(.tmp 52), (.const (.str ⟨#[48, 0, 4, 0]⟩))]⟩,
                ⟨(some 51), none, .op (.move (.tmp 53))⟩,
                ⟨(some 54), none, .op (.ext 0 (.tmp 51))⟩,
                ⟨(some 55), none, .op (.ext 1 (.tmp 51))⟩,
                ⟨(some 14), none, .op (.move (.tmp 54))⟩,
                ⟨(some 15), none, .op (.move (.tmp 55))⟩])
              (.seq
               (.region [⟨(some 56), none, .op (.move (.tmp 6))⟩,
                 ⟨(some 57), none, .op (.bsl 1 2 9 (.one (.str ⟨#[]⟩) .nil) [(0, (.const (.str ⟨#[48, 2, 5, 0]⟩))), (1, (.const (.str ⟨#[48, 0]⟩)))])⟩,
                 ⟨(some 58), none, .call 22 [(.tmp 56), (.tmp 57)]⟩,
                 ⟨(some 16), none, .op (.move (.tmp 58))⟩])
               (.seq
                (.region [⟨(some 59), none, .op (.move (.tmp 3))⟩,
                  ⟨(some 60), none, .op (.lenSl (.tmp 59))⟩,
                  ⟨(some 61), none, .op (.bin .eql (.tmp 60) (.const (.int .i64 0)))⟩,
                  ⟨(some 62), none, .op (.move (.tmp 61))⟩,
                  ⟨(some 63), some (62, true), .op (.move (.tmp 4))⟩,
                  ⟨(some 64), some (62, true), .op (.bin .eql (.tmp 63) (.const (.int .i64 0)))⟩,
                  ⟨(some 65), none, .op (.pick (.tmp 62) (.tmp 64) (.const (.bool false)))⟩,
                  ⟨(some 66), none, .op (.move (.tmp 65))⟩,
                  ⟨(some 67), some (66, true), .op (.move (.tmp 5))⟩,
                  ⟨(some 68), some (66, true), .op (.bin .eql (.tmp 67) (.const (.int .i64 1)))⟩,
                  ⟨(some 69), none, .op (.pick (.tmp 66) (.tmp 68) (.const (.bool false)))⟩,
                  ⟨(some 70), none, .op (.move (.tmp 69))⟩,
                  ⟨(some 71), some (70, true), .op (.move (.tmp 16))⟩,
                  ⟨(some 72), none, .op (.pick (.tmp 70) (.tmp 71) (.const (.bool false)))⟩,
                  ⟨(some 73), none, .op (.move (.tmp 72))⟩,
                  ⟨(some 74), some (73, true), .op (.move (.tmp 7))⟩,
                  ⟨(some 75), some (73, true), .op (.bin .eql (.tmp 74) (.const (.int .i64 0)))⟩,
                  ⟨(some 76), none, .op (.pick (.tmp 73) (.tmp 75) (.const (.bool false)))⟩,
                  ⟨(some 77), none, .op (.move (.tmp 76))⟩,
                  ⟨(some 78), some (77, true), .op (.move (.tmp 8))⟩,
                  ⟨(some 79), some (77, true), .op (.bin .eql (.tmp 78) (.const (.int .i64 1)))⟩,
                  ⟨(some 80), none, .op (.pick (.tmp 77) (.tmp 79) (.const (.bool false)))⟩,
                  ⟨(some 81), none, .op (.move (.tmp 80))⟩,
                  ⟨(some 82), some (81, true), .op (.move (.tmp 10))⟩,
                  ⟨(some 83), some (81, true), .op (.bin .eql (.tmp 82) (.const (.int .i64 100)))⟩,
                  ⟨(some 84), none, .op (.pick (.tmp 81) (.tmp 83) (.const (.bool false)))⟩,
                  ⟨(some 85), none, .op (.move (.tmp 84))⟩,
                  ⟨(some 86), some (85, true), .op (.move (.tmp 11))⟩,
                  ⟨(some 87), none, .op (.pick (.tmp 85) (.tmp 86) (.const (.bool false)))⟩,
                  ⟨(some 88), none, .op (.move (.tmp 87))⟩,
                  ⟨(some 89), some (88, true), .op (.move (.tmp 13))⟩,
                  ⟨(some 90), some (88, true), .op (.bin .eql (.tmp 89) (.const (.int .i64 100)))⟩,
                  ⟨(some 91), none, .op (.pick (.tmp 88) (.tmp 90) (.const (.bool false)))⟩,
                  ⟨(some 92), none, .op (.move (.tmp 91))⟩,
                  ⟨(some 93), some (92, true), .op (.move (.tmp 14))⟩,
                  ⟨(some 94), some (92, true), .op (.lenSl (.tmp 93))⟩,
                  ⟨(some 95), some (92, true), .op (.bin .eql (.tmp 94) (.const (.int .i64 1)))⟩,
                  ⟨(some 96), none, .op (.pick (.tmp 92) (.tmp 95) (.const (.bool false)))⟩,
                  ⟨(some 97), none, .op (.move (.tmp 96))⟩,
                  ⟨(some 98), some (97, true), .op (.move (.tmp 15))⟩,
                  ⟨(some 99), some (97, true), .op (.bin .eql (.tmp 98) (.const (.int .i64 100)))⟩,
                  ⟨(some 100), none, .op (.pick (.tmp 97) (.tmp 99) (.const (.bool false)))⟩,
                  ⟨(some 0), none, .op (.move (.tmp 100))⟩])
                (.ret))))))))))))))
def r18 : List LRes := [.tmp 0]
theorem body18 : Try.f18.body.bind (compileC Try.prog) = some c18 := by kernel_rfl
theorem res18 : compileRes Try.prog Try.f18.results.toList = some r18 := by kernel_rfl
theorem has18 : hasBody Try.prog 18 = true := by kernel_rfl
theorem enter18 {args : LVals} {h : LHeap} {R : LEnd → LHeap → Prop} (hk : 101 - lvsLen args = 101) (hw : initK args 101 fun t => lwp Try.prog h.length c18 (bodyQ r18 R) t h) : LCalls Try.prog 18 args h R := LCalls.enter Try.func18 body18 has18 res18 _ (by rw [Try.ntmps18]; exact hk) hw
/-- (*palatine/palatineref10.Frames).Feed -/
def c21 : LCode :=
  .seq
   (.region [⟨(some 4), none, .op (.move (.const (.slice ⟨0, [], 0⟩ 0 0 0 0 (some 0))))⟩,
     ⟨(some 5), none, .op (.move (.const (.int .i64 0)))⟩])
   (.seq
    (.seq
     (.region [⟨(some 12), none, .op (.move (.tmp 0))⟩,
       ⟨(some 13), none, .op (.nilc (.tmp 12))⟩,
       ⟨(some 14), none, .op (.field 1 (.tmp 13))⟩,
       ⟨(some 15), none, .op (.load none (.tmp 14))⟩])
     (.cond (.tmp 15)
      (.seq
       (.region [⟨(some 4), none, .op (.move (.const (.slice ⟨0, [], 0⟩ 0 0 0 0 (some 0))))⟩,
         ⟨(some 5), none, .op (.move (.const (.int .i64 100)))⟩])
       (.ret))
      (.skip)))
    (.seq
     (.region [⟨(some 16), none, .op (.move (.tmp 0))⟩,
       ⟨(some 17), none, .op (.nilc (.tmp 16))⟩,
       ⟨(some 18), none, .op (.field 0 (.tmp 17))⟩,
       ⟨(some 19), none, .op (.load none (.tmp 18))⟩,
       ⟨(some 20), none, .op (.move (.tmp 1))⟩,
       ⟨(some 21), none, .op (.bin .add (.tmp 19) (.tmp 20))⟩,
       ⟨(some 6), none, .op (.move (.tmp 21))⟩])
     (.seq
      (.region [⟨(some 7), none, .op (.move (.const (.slice ⟨0, [], 0⟩ 0 0 0 0 (some 0))))⟩])
      (.seq
       (.block 0
        (.loop
         (.seq
          (.seq
           (.region [⟨(some 22), none, .op (.move (.tmp 6))⟩,
             ⟨(some 23), none, .op (.lenStr (.tmp 22))⟩,
             ⟨(some 24), none, .op (.bin .gtr (.tmp 23) (.const (.int .i64 0)))⟩])
           (.cond (.tmp 24)
            (.skip)
            (.exit 0)))
          (.block 1
           (.seq
            (.region [⟨(some 26), none, .op (.move (.tmp 6))⟩,
              ⟨(some 27), none, .call 31 [(.tmp 26)]⟩,
              ⟨(some 25), none, .op (.move (.tmp 27))⟩,
              ⟨(some 28), none, .op (.ext 0 (.tmp 25))⟩,
              ⟨(some 29), none, .op (.ext 1 (.tmp 25))⟩,
              ⟨(some 30), none, .op (.ext 2 (.tmp 25))⟩,
              ⟨(some 31), none, .op (.ext 3 (.tmp 25))⟩,
              ⟨(some 8), none, .op (.move (.tmp 28))⟩,
              ⟨(some 9), none, .op (.move (.tmp 29))⟩,
              ⟨(some 10), none, .op (.move (.tmp 30))⟩,
              ⟨(some 11), none, .op (.move (.tmp 31))⟩])
            (.seq
             (.seq
              (.region [⟨(some 32), none, .op (.move (.tmp 6))⟩,
                ⟨(some 33), none, .op (.idxStr (.tmp 32) (.const (.int .i64 0)))⟩,
                ⟨(some 34), none, .op (.bin .neq (.tmp 33) (.const (.int .u8 48)))⟩,
                ⟨(some 35), none, .op (.move (.tmp 34))⟩,
                ⟨(some 36), some (35, false), .op (.move (.tmp 11))⟩,
                ⟨(some 37), some (35, false), .op (.bin .neq (.tmp 36) (.const (.int .i64 0)))⟩,
                ⟨(some 38), some (35, false), .op (.move (.tmp 37))⟩,
                ⟨(some 39), some (38, true), .op (.move (.tmp 11))⟩,
                ⟨(some 40), some (38, true), .op (.bin .neq (.tmp 39) (.const (.int .i64 92)))⟩,
                ⟨(some 41), some (35, false), .op (.pick (.tmp 38) (.tmp 40) (.const (.bool false)))⟩,
                ⟨(some 42), none, .op (.pick (.tmp 35) (.const (.bool true)) (.tmp 41))⟩])
              (.cond (.tmp 42)
               (.seq
                (.region [⟨(some 43), none, .op (.move (.tmp 0))⟩,
                  ⟨(some 44), none, .op (.nilc (.tmp 43))⟩,
                  ⟨(some 45), none, .op (.field 0 (.tmp 44))⟩,
                  ⟨none, none, .op (.store 1 (.tmp 45) (.const (.str ⟨#[]⟩)))⟩])
                (.seq
                 (.region [⟨(some 46), none, .op (.move (.tmp 0))⟩,
                   ⟨(some 47), none, .op (.nilc (.tmp 46))⟩,
                   ⟨(some 48), none, .op (.field 1 (.tmp 47))⟩,
                   ⟨none, none, .op (.store 1 (.tmp 48) (.const (.bool true)))⟩])
                 (.seq
                  (.region [⟨(some 49), none, .op (.move (.tmp 7))⟩,
                    ⟨(some 4), none, .op (.move (.tmp 49))⟩,
                    ⟨(some 5), none, .op (.move (.const (.int .i64 100)))⟩])
                  (.ret))))
               (.skip)))
             (.seq
              (.seq
               (.region [⟨(some 50), none, .op (.move (.tmp 11))⟩,
                 ⟨(some 51), none, .op (.bin .eql (.tmp 50) (.const (.int .i64 92)))⟩,
                 ⟨(some 52), none, .op (.move (.tmp 51))⟩,
                 ⟨(some 53), some (52, false), .op (.move (.tmp 6))⟩,
                 ⟨(some 54), some (52, false), .op (.lenStr (.tmp 53))⟩,
                 ⟨(some 55), some (52, false), .op (.move (.tmp 10))⟩,
                 ⟨(some 56), some (52, false), .op (.move (.tmp 9))⟩,
                 ⟨(some 57), some (52, false), .op (.bin .add (.tmp 55) (.tmp 56))⟩,
                 ⟨(some 58), some (52, false), .op (.bin .lss (.tmp 54) (.tmp 57))⟩,
                 ⟨(some 59), none, .op (.pick (.tmp 52) (.const (.bool true)) (.tmp 58))⟩])
               (.cond (.tmp 59)
                (.seq
                 (.region [⟨(some 60), none, .op (.move (.tmp 0))⟩,
                   ⟨(some 61), none, .op (.move (.tmp 6))⟩,
                   ⟨(some 62), none, .op (.nilc (.tmp 60))⟩,
                   ⟨(some 63), none, .op (.field 0 (.tmp 62))⟩,
                   ⟨none, none, .op (.store 1 (.tmp 63) (.tmp 61))⟩])
                 (.seq
                  (.region [⟨(some 64), none, .op (.move (.tmp 7))⟩,
                    ⟨(some 4), none, .op (.move (.tmp 64))⟩,
                    ⟨(some 5), none, .op (.move (.const (.int .i64 0)))⟩])
                  (.ret)))
                (.skip)))
              (.seq
               (.region [⟨(some 65), none, .op (.move (.tmp 7))⟩,
                 ⟨(some 66), none, .op (.move (.tmp 6))⟩,
                 ⟨(some 67), none, .op (.move (.tmp 10))⟩,
                 ⟨(some 68), none, .op (.move (.tmp 9))⟩,
                 ⟨(some 69), none, .op (.bin .add (.tmp 67) (.tmp 68))⟩,
                 ⟨(some 70), none, .op (.slStr (.tmp 66) none (some (.tmp 69)))⟩,
                 ⟨(some 71), none, .op (.bsl 1 1 9 (.one (.str ⟨#[]⟩) .nil) [(0, (.tmp 70))])⟩,
                 ⟨(some 72), none, .op (.app 1 16 9 (.tmp 65) (.tmp 71))⟩,
                 ⟨(some 7), none, .op (.move (.tmp 72))⟩])
               (.region [⟨(some 73), none, .op (.move (.tmp 6))⟩,
                 ⟨(some 74), none, .op (.move (.tmp 10))⟩,
                 ⟨(some 75), none, .op (.move (.tmp 9))⟩,
                 ⟨(some 76), none, .op (.bin .add (.tmp 74) (.tmp 75))⟩,
                 ⟨(some 77), none, .op (.slStr (.tmp 73) (some (.tmp 76)) none)⟩,
                 ⟨(some 6), none, .op (.move (.tmp 77))⟩])))))))))
       (.seq
        (.region [⟨(some 78), none, .op (.move (.tmp 0))⟩,
          ⟨(some 79), none, .op (.nilc (.tmp 78))⟩,
          ⟨(some 80), none, .op (.field 0 (.tmp 79))⟩,
          ⟨none, none, .op (.store 1 (.tmp 80) (.const (.str ⟨#[]⟩)))⟩])
        (.seq
         (.region [⟨(some 81), none, .op (.move (.tmp 7))⟩,
           ⟨(some 4), none, .op (.move (.tmp 81))⟩,
           ⟨(some 5), none, .op (.move (.const (.int .i64 0)))⟩])
         (.ret)))))))
def r21 : List LRes := [.tmp 4, .tmp 5]
theorem body21 : Try.f21.body.bind (compileC Try.prog) = some c21 := by kernel_rfl
theorem res21 : compileRes Try.prog Try.f21.results.toList = some r21 := by kernel_rfl
theorem has21 : hasBody Try.prog 21 = true := by kernel_rfl
theorem enter21 {args : LVals} {h : LHeap} {R : LEnd → LHeap → Prop} (hk : 82 - lvsLen args = 80) (hw : initK args 80 fun t => lwp Try.prog h.length c21 (bodyQ r21 R) t h) : LCalls Try.prog 21 args h R := LCalls.enter Try.func21 body21 has21 res21 _ (by rw [Try.ntmps21]; exact hk) hw
/-- palatine/palatinelaw10.texts -/
def c22 : LCode :=
  .seq
   (.region [⟨(some 4), none, .op (.move (.const (.bool false)))⟩])
   (.seq
    (.seq
     (.region [⟨(some 6), none, .op (.move (.tmp 0))⟩,
       ⟨(some 7), none, .op (.lenSl (.tmp 6))⟩,
       ⟨(some 8), none, .op (.move (.tmp 1))⟩,
       ⟨(some 9), none, .op (.lenSl (.tmp 8))⟩,
       ⟨(some 10), none, .op (.bin .neq (.tmp 7) (.tmp 9))⟩])
     (.cond (.tmp 10)
      (.seq
       (.region [⟨(some 4), none, .op (.move (.const (.bool false)))⟩])
       (.ret))
      (.skip)))
    (.seq
     (.seq
      (.region [⟨(some 5), none, .op (.move (.const (.int .i64 0)))⟩])
      (.block 0
       (.loop
        (.seq
         (.seq
          (.region [⟨(some 11), none, .op (.move (.tmp 5))⟩,
            ⟨(some 12), none, .op (.move (.tmp 0))⟩,
            ⟨(some 13), none, .op (.lenSl (.tmp 12))⟩,
            ⟨(some 14), none, .op (.bin .lss (.tmp 11) (.tmp 13))⟩])
          (.cond (.tmp 14)
           (.skip)
           (.exit 0)))
         (.seq
          (.block 1
           (.seq
            (.draws [(0, [], ⟨(some 17), none, .op (.move (.tmp 0))⟩),
              (1, [0], ⟨(some 18), none, .op (.move (.tmp 5))⟩),
              (2, [], ⟨(some 19), none, .op (.idxSl 1 (.tmp 17) (.tmp 18))⟩),
              (3, [], ⟨(some 20), none, .op (.load none (.tmp 19))⟩),
              (4, [0, 1, 2, 3], ⟨(some 21), none, .op (.move (.tmp 1))⟩),
              (5, [0, 1, 2, 3, 4], ⟨(some 22), none, .op (.move (.tmp 5))⟩),
              (6, [0, 1, 2, 3], ⟨(some 23), none, .op (.idxSl 1 (.tmp 21) (.tmp 22))⟩),
              (7, [0, 1, 2, 3], ⟨(some 24), none, .op (.load none (.tmp 23))⟩),
              (8, [], ⟨(some 25), none, .op (.bin .neq (.tmp 20) (.tmp 24))⟩)])
            (.cond (.tmp 25)
             (.seq
              (.region [⟨(some 4), none, .op (.move (.const (.bool false)))⟩])
              (.ret))
             (.skip))))
          (.region [⟨(some 15), none, .op (.move (.tmp 5))⟩,
            ⟨(some 16), none, .op (.bin .add (.tmp 15) (.const (.int .i64 1)))⟩,
            ⟨(some 5), none, .op (.move (.tmp 16))⟩]))))))
     (.seq
      (.region [⟨(some 4), none, .op (.move (.const (.bool true)))⟩])
      (.ret))))
def r22 : List LRes := [.tmp 4]
theorem body22 : Try.f22.body.bind (compileC Try.prog) = some c22 := by kernel_rfl
theorem res22 : compileRes Try.prog Try.f22.results.toList = some r22 := by kernel_rfl
theorem has22 : hasBody Try.prog 22 = true := by kernel_rfl
theorem enter22 {args : LVals} {h : LHeap} {R : LEnd → LHeap → Prop} (hk : 26 - lvsLen args = 24) (hw : initK args 24 fun t => lwp Try.prog h.length c22 (bodyQ r22 R) t h) : LCalls Try.prog 22 args h R := LCalls.enter Try.func22 body22 has22 res22 _ (by rw [Try.ntmps22]; exact hk) hw
/-- palatine/palatinelaw10.FramePlays -/
def c3 : LCode :=
  .seq
   (.region [⟨(some 2), none, .op (.move (.const (.bool false)))⟩])
   (.seq
    (.region [⟨(some 14), none, .call 18 []⟩,
      ⟨(some 3), none, .op (.move (.tmp 14))⟩])
    (.seq
     (.region [⟨(some 15), none, .call 19 []⟩,
       ⟨(some 4), none, .op (.move (.tmp 15))⟩])
     (.seq
      (.seq
       (.region [⟨(some 16), none, .op (.move (.tmp 4))⟩,
         ⟨(some 17), none, .op (.peq false (.tmp 16) (.const .nilp))⟩])
       (.cond (.tmp 17)
        (.seq
         (.region [⟨(some 2), none, .op (.move (.const (.bool false)))⟩])
         (.ret))
        (.skip)))
      (.seq
       (.region [⟨(some 18), none, .op (.bst (.one (.str ⟨#[]⟩) (.one (.bool false) .nil)) [])⟩,
         ⟨(some 19), none, .op (.box 28 2 (.tmp 18))⟩,
         ⟨(some 5), none, .op (.move (.tmp 19))⟩])
       (.seq
        (.seq
         (.region [⟨(some 6), none, .op (.move (.const (.int .i64 0)))⟩])
         (.block 0
          (.loop
           (.seq
            (.seq
             (.region [⟨(some 20), none, .op (.move (.tmp 6))⟩,
               ⟨(some 21), none, .op (.move (.tmp 0))⟩,
               ⟨(some 22), none, .op (.lenSl (.tmp 21))⟩,
               ⟨(some 23), none, .op (.bin .lss (.tmp 20) (.tmp 22))⟩,
               ⟨(some 24), none, .op (.move (.tmp 23))⟩,
               ⟨(some 25), some (24, true), .op (.move (.tmp 6))⟩,
               ⟨(some 26), some (24, true), .op (.bin .lss (.tmp 25) (.const (.int .i64 200)))⟩,
               ⟨(some 27), none, .op (.pick (.tmp 24) (.tmp 26) (.const (.bool false)))⟩])
             (.cond (.tmp 27)
              (.skip)
              (.exit 0)))
            (.seq
             (.block 1
              (.seq
               (.region [⟨(some 31), none, .op (.move (.tmp 4))⟩,
                 ⟨(some 32), none, .op (.move (.tmp 0))⟩,
                 ⟨(some 33), none, .op (.move (.tmp 6))⟩,
                 ⟨(some 34), none, .op (.idxSl 1 (.tmp 32) (.tmp 33))⟩,
                 ⟨(some 35), none, .op (.load none (.tmp 34))⟩,
                 ⟨(some 36), none, .call 20 [(.tmp 31), (.tmp 35)]⟩,
                 ⟨(some 30), none, .op (.move (.tmp 36))⟩,
                 ⟨(some 37), none, .op (.ext 0 (.tmp 30))⟩,
                 ⟨(some 38), none, .op (.ext 1 (.tmp 30))⟩,
                 ⟨(some 7), none, .op (.move (.tmp 37))⟩,
                 ⟨(some 8), none, .op (.move (.tmp 38))⟩])
               (.seq
                (.region [⟨(some 40), none, .op (.move (.tmp 5))⟩,
                  ⟨(some 41), none, .op (.move (.tmp 0))⟩,
                  ⟨(some 42), none, .op (.move (.tmp 6))⟩,
                  ⟨(some 43), none, .op (.idxSl 1 (.tmp 41) (.tmp 42))⟩,
                  ⟨(some 44), none, .op (.load none (.tmp 43))⟩,
                  ⟨(some 45), none, .call 21 [(.tmp 40), (.tmp 44)]⟩,
                  ⟨(some 39), none, .op (.move (.tmp 45))⟩,
                  ⟨(some 46), none, .op (.ext 0 (.tmp 39))⟩,
                  ⟨(some 47), none, .op (.ext 1 (.tmp 39))⟩,
                  ⟨(some 9), none, .op (.move (.tmp 46))⟩,
                  ⟨(some 10), none, .op (.move (.tmp 47))⟩])
                (.seq
                 (.region [⟨(some 48), none, .op (.move (.tmp 7))⟩,
                   ⟨(some 49), none, .op (.move (.tmp 9))⟩,
                   ⟨(some 50), none, .call 22 [(.tmp 48), (.tmp 49)]⟩,
                   ⟨(some 11), none, .op (.move (.tmp 50))⟩])
                 (.seq
                  (.region [⟨(some 51), none, .op (.move (.tmp 4))⟩,
                    ⟨(some 52), none, .call 23 [(.tmp 51)]⟩,
                    ⟨(some 12), none, .op (.move (.tmp 52))⟩])
                  (.seq
                   (.region [⟨(some 53), none, .op (.move (.tmp 4))⟩,
                     ⟨(some 54), none, .call 24 [(.tmp 53)]⟩,
                     ⟨(some 13), none, .op (.move (.tmp 54))⟩])
                   (.seq
                    (.region [⟨(some 55), none, .op (.move (.tmp 11))⟩,
                      ⟨(some 56), none, .op (.un .not (.tmp 55))⟩,
                      ⟨(some 57), none, .op (.move (.tmp 56))⟩,
                      ⟨(some 58), some (57, false), .op (.move (.tmp 8))⟩,
                      ⟨(some 59), some (57, false), .op (.move (.tmp 10))⟩,
                      ⟨(some 60), some (57, false), .op (.bin .neq (.tmp 58) (.tmp 59))⟩,
                      ⟨(some 61), none, .op (.pick (.tmp 57) (.const (.bool true)) (.tmp 60))⟩,
                      ⟨(some 62), none, .op (.move (.tmp 61))⟩,
                      ⟨(some 63), some (62, false), .op (.move (.tmp 12))⟩,
                      ⟨(some 64), some (62, false), .op (.move (.tmp 5))⟩,
                      ⟨(some 65), some (62, false), .op (.nilc (.tmp 64))⟩,
                      ⟨(some 66), some (62, false), .op (.field 0 (.tmp 65))⟩,
                      ⟨(some 67), some (62, false), .op (.load none (.tmp 66))⟩,
                      ⟨(some 68), some (62, false), .op (.lenStr (.tmp 67))⟩,
                      ⟨(some 69), some (62, false), .op (.bin .neq (.tmp 63) (.tmp 68))⟩,
                      ⟨(some 70), none, .op (.pick (.tmp 62) (.const (.bool true)) (.tmp 69))⟩,
                      ⟨(some 71), none, .op (.move (.tmp 70))⟩,
                      ⟨(some 72), some (71, false), .op (.move (.tmp 13))⟩,
                      ⟨(some 73), some (71, false), .op (.move (.tmp 5))⟩,
                      ⟨(some 74), some (71, false), .op (.nilc (.tmp 73))⟩,
                      ⟨(some 75), some (71, false), .op (.field 1 (.tmp 74))⟩,
                      ⟨(some 76), some (71, false), .op (.load none (.tmp 75))⟩,
                      ⟨(some 77), some (71, false), .op (.beq true (.tmp 72) (.tmp 76))⟩,
                      ⟨(some 78), none, .op (.pick (.tmp 71) (.const (.bool true)) (.tmp 77))⟩])
                    (.cond (.tmp 78)
                     (.seq
                      (.region [⟨(some 2), none, .op (.move (.const (.bool false)))⟩])
                      (.ret))
                     (.skip)))))))))
             (.region [⟨(some 28), none, .op (.move (.tmp 6))⟩,
               ⟨(some 29), none, .op (.bin .add (.tmp 28) (.const (.int .i64 1)))⟩,
               ⟨(some 6), none, .op (.move (.tmp 29))⟩]))))))
        (.seq
         (.region [⟨(some 79), none, .op (.move (.tmp 3))⟩,
           ⟨(some 2), none, .op (.move (.tmp 79))⟩])
         (.ret)))))))
def r3 : List LRes := [.tmp 2]
theorem body3 : Try.f3.body.bind (compileC Try.prog) = some c3 := by kernel_rfl
theorem res3 : compileRes Try.prog Try.f3.results.toList = some r3 := by kernel_rfl
theorem has3 : hasBody Try.prog 3 = true := by kernel_rfl
theorem enter3 {args : LVals} {h : LHeap} {R : LEnd → LHeap → Prop} (hk : 80 - lvsLen args = 79) (hw : initK args 79 fun t => lwp Try.prog h.length c3 (bodyQ r3 R) t h) : LCalls Try.prog 3 args h R := LCalls.enter Try.func3 body3 has3 res3 _ (by rw [Try.ntmps3]; exact hk) hw
/-- palatine/palatinelaw10.FrameCuts -/
def c4 : LCode :=
  .seq
   (.region [⟨(some 4), none, .op (.move (.const (.bool false)))⟩])
   (.seq
    (.region [⟨(some 22), none, .call 18 []⟩,
      ⟨(some 5), none, .op (.move (.tmp 22))⟩])
    (.seq
     (.region [⟨(some 23), none, .call 19 []⟩,
       ⟨(some 6), none, .op (.move (.tmp 23))⟩])
     (.seq
      (.region [⟨(some 24), none, .call 19 []⟩,
        ⟨(some 7), none, .op (.move (.tmp 24))⟩])
      (.seq
       (.region [⟨(some 25), none, .call 19 []⟩,
         ⟨(some 8), none, .op (.move (.tmp 25))⟩])
       (.seq
        (.seq
         (.region [⟨(some 26), none, .op (.move (.tmp 6))⟩,
           ⟨(some 27), none, .op (.peq false (.tmp 26) (.const .nilp))⟩,
           ⟨(some 28), none, .op (.move (.tmp 27))⟩,
           ⟨(some 29), some (28, false), .op (.move (.tmp 7))⟩,
           ⟨(some 30), some (28, false), .op (.peq false (.tmp 29) (.const .nilp))⟩,
           ⟨(some 31), none, .op (.pick (.tmp 28) (.const (.bool true)) (.tmp 30))⟩,
           ⟨(some 32), none, .op (.move (.tmp 31))⟩,
           ⟨(some 33), some (32, false), .op (.move (.tmp 8))⟩,
           ⟨(some 34), some (32, false), .op (.peq false (.tmp 33) (.const .nilp))⟩,
           ⟨(some 35), none, .op (.pick (.tmp 32) (.const (.bool true)) (.tmp 34))⟩])
         (.cond (.tmp 35)
          (.seq
           (.region [⟨(some 4), none, .op (.move (.const (.bool false)))⟩])
           (.ret))
          (.skip)))
        (.seq
         (.seq
          (.region [⟨(some 36), none, .op (.move (.tmp 1))⟩,
            ⟨(some 37), none, .op (.bin .lss (.tmp 36) (.const (.int .i64 0)))⟩,
            ⟨(some 38), none, .op (.move (.tmp 37))⟩,
            ⟨(some 39), some (38, false), .op (.move (.tmp 1))⟩,
            ⟨(some 40), some (38, false), .op (.move (.tmp 0))⟩,
            ⟨(some 41), some (38, false), .op (.lenStr (.tmp 40))⟩,
            ⟨(some 42), some (38, false), .op (.bin .gtr (.tmp 39) (.tmp 41))⟩,
            ⟨(some 43), none, .op (.pick (.tmp 38) (.const (.bool true)) (.tmp 42))⟩])
          (.cond (.tmp 43)
           (.region [⟨(some 1), none, .op (.move (.const (.int .i64 0)))⟩])
           (.skip)))
         (.seq
          (.region [⟨(some 45), none, .op (.move (.tmp 6))⟩,
            ⟨(some 46), none, .op (.move (.tmp 0))⟩,
            ⟨(some 47), none, .call 20 [(.tmp 45), (.tmp 46)]⟩,
            ⟨(some 44), none, .op (.move (.tmp 47))⟩,
            ⟨(some 48), none, .op (.ext 0 (.tmp 44))⟩,
            ⟨(some 49), none, .op (.ext 1 (.tmp 44))⟩,
            ⟨(some 9), none, .op (.move (.tmp 48))⟩,
            ⟨(some 10), none, .op (.move (.tmp 49))⟩])
          (.seq
           (.region [⟨(some 51), none, .op (.move (.tmp 7))⟩,
             ⟨(some 52), none, .op (.move (.tmp 0))⟩,
             ⟨(some 53), none, .op (.move (.tmp 1))⟩,
             ⟨(some 54), none, .op (.slStr (.tmp 52) none (some (.tmp 53)))⟩,
             ⟨(some 55), none, .call 20 [(.tmp 51), (.tmp 54)]⟩,
             ⟨(some 50), none, .op (.move (.tmp 55))⟩,
             ⟨(some 56), none, .op (.ext 0 (.tmp 50))⟩,
             ⟨(some 57), none, .op (.ext 1 (.tmp 50))⟩,
             ⟨(some 11), none, .op (.move (.tmp 56))⟩,
             ⟨(some 12), none, .op (.move (.tmp 57))⟩])
           (.seq
            (.region [⟨(some 59), none, .op (.move (.tmp 7))⟩,
              ⟨(some 60), none, .op (.move (.tmp 0))⟩,
              ⟨(some 61), none, .op (.move (.tmp 1))⟩,
              ⟨(some 62), none, .op (.slStr (.tmp 60) (some (.tmp 61)) none)⟩,
              ⟨(some 63), none, .call 20 [(.tmp 59), (.tmp 62)]⟩,
              ⟨(some 58), none, .op (.move (.tmp 63))⟩,
              ⟨(some 64), none, .op (.ext 0 (.tmp 58))⟩,
              ⟨(some 65), none, .op (.ext 1 (.tmp 58))⟩,
              ⟨(some 13), none, .op (.move (.tmp 64))⟩,
              ⟨(some 14), none, .op (.move (.tmp 65))⟩])
            (.seq
             (.region [⟨(some 15), none, .op (.move (.const (.slice ⟨0, [], 0⟩ 0 0 0 0 (some 0))))⟩])
             (.seq
              (.region [⟨(some 16), none, .op (.move (.const (.int .i64 0)))⟩])
              (.seq
               (.seq
                (.region [⟨(some 17), none, .op (.move (.const (.int .i64 0)))⟩])
                (.block 0
                 (.loop
                  (.seq
                   (.seq
                    (.region [⟨(some 66), none, .op (.move (.tmp 17))⟩,
                      ⟨(some 67), none, .op (.move (.tmp 0))⟩,
                      ⟨(some 68), none, .op (.lenStr (.tmp 67))⟩,
                      ⟨(some 69), none, .op (.bin .lss (.tmp 66) (.tmp 68))⟩,
                      ⟨(some 70), none, .op (.move (.tmp 69))⟩,
                      ⟨(some 71), some (70, true), .op (.move (.tmp 17))⟩,
                      ⟨(some 72), some (70, true), .op (.bin .lss (.tmp 71) (.const (.int .i64 3000)))⟩,
                      ⟨(some 73), none, .op (.pick (.tmp 70) (.tmp 72) (.const (.bool false)))⟩])
                    (.cond (.tmp 73)
                     (.skip)
                     (.exit 0)))
                   (.seq
                    (.block 1
                     (.seq
                      (.region [⟨(some 77), none, .op (.move (.tmp 8))⟩,
                        ⟨(some 78), none, .op (.move (.tmp 0))⟩,
                        ⟨(some 79), none, .op (.move (.tmp 17))⟩,
                        ⟨(some 80), none, .op (.move (.tmp 17))⟩,
                        ⟨(some 81), none, .op (.bin .add (.tmp 80) (.const (.int .i64 1)))⟩,
                        ⟨(some 82), none, .op (.slStr (.tmp 78) (some (.tmp 79)) (some (.tmp 81)))⟩,
                        ⟨(some 83), none, .call 20 [(.tmp 77), (.tmp 82)]⟩,
                        ⟨(some 76), none, .op (.move (.tmp 83))⟩,
                        ⟨(some 84), none, .op (.ext 0 (.tmp 76))⟩,
                        ⟨(some 85), none, .op (.ext 1 (.tmp 76))⟩,
                        ⟨(some 18), none, .op (.move (.tmp 84))⟩,
                        ⟨(some 19), none, .op (.move (.tmp 85))⟩])
                      (.seq
                       (.region [⟨(some 86), none, .op (.move (.tmp 15))⟩,
                         ⟨(some 87), none, .op (.move (.tmp 18))⟩,
                         ⟨(some 88), none, .op (.app 1 16 9 (.tmp 86) (.tmp 87))⟩,
                         ⟨(some 15), none, .op (.move (.tmp 88))⟩])
                       (.region [⟨(some 89), none, .op (.move (.tmp 19))⟩,
                         ⟨(some 16), none, .op (.move (.tmp 89))⟩]))))
                    (.region [⟨(some 74), none, .op (.move (.tmp 17))⟩,
                      ⟨(some 75), none, .op (.bin .add (.tmp 74) (.const (.int .i64 1)))⟩,
                      ⟨(some 17), none, .op (.move (.tmp 75))⟩]))))))
               (.seq
                (.region [⟨(some 90), none, .op (.move (.tmp 9))⟩,
                  ⟨(some 91), none, .op (.bsl 1 0 9 (.one (.str ⟨#[]⟩) .nil) [])⟩,
                  ⟨(some 92), none, .op (.move (.tmp 11))⟩,
                  ⟨(some 93), none, .op (.app 1 16 9 (.tmp 91) (.tmp 92))⟩,
                  ⟨(some 94), none, .op (.move (.tmp 13))⟩,
                  ⟨(some 95), none, .op (.app 1 16 9 (.tmp 93) (.tmp 94))⟩,
                  ⟨(some 96), none, .call 22 [(.tmp 90), (.tmp 95)]⟩,
                  ⟨(some 20), none, .op (.move (.tmp 96))⟩])
                (.seq
                 (.region [⟨(some 97), none, .op (.move (.tmp 9))⟩,
                   ⟨(some 98), none, .op (.move (.tmp 15))⟩,
                   ⟨(some 99), none, .call 22 [(.tmp 97), (.tmp 98)]⟩,
                   ⟨(some 21), none, .op (.move (.tmp 99))⟩])
                 (.seq
                  (.region [⟨(some 100), none, .op (.move (.tmp 5))⟩,
                    ⟨(some 101), none, .op (.move (.tmp 100))⟩,
                    ⟨(some 102), some (101, true), .op (.move (.tmp 20))⟩,
                    ⟨(some 103), none, .op (.pick (.tmp 101) (.tmp 102) (.const (.bool false)))⟩,
                    ⟨(some 104), none, .op (.move (.tmp 103))⟩,
                    ⟨(some 105), some (104, true), .op (.move (.tmp 10))⟩,
                    ⟨(some 106), some (104, true), .op (.move (.tmp 14))⟩,
                    ⟨(some 107), some (104, true), .op (.bin .eql (.tmp 105) (.tmp 106))⟩,
                    ⟨(some 108), none, .op (.pick (.tmp 104) (.tmp 107) (.const (.bool false)))⟩,
                    ⟨(some 109), none, .op (.move (.tmp 108))⟩,
                    ⟨(some 110), some (109, true), .op (.move (.tmp 0))⟩,
                    ⟨(some 111), some (109, true), .op (.lenStr (.tmp 110))⟩,
                    ⟨(some 112), some (109, true), .op (.bin .gtr (.tmp 111) (.const (.int .i64 3000)))⟩,
                    ⟨(some 113), some (109, true), .op (.move (.tmp 112))⟩,
                    ⟨(some 114), some (113, false), .op (.move (.tmp 21))⟩,
                    ⟨(some 115), some (113, false), .op (.move (.tmp 114))⟩,
                    ⟨(some 116), some (115, true), .op (.move (.tmp 10))⟩,
                    ⟨(some 117), some (115, true), .op (.move (.tmp 16))⟩,
                    ⟨(some 118), some (115, true), .op (.bin .eql (.tmp 116) (.tmp 117))⟩,
                    ⟨(some 119), some (113, false), .op (.pick (.tmp 115) (.tmp 118) (.const (.bool false)))⟩,
                    ⟨(some 120), some (109, true), .op (.pick (.tmp 113) (.const (.bool true)) (.tmp 119))⟩,
                    ⟨(some 121), none, .op (.pick (.tmp 109) (.tmp 120) (.const (.bool false)))⟩,
                    ⟨(some 4), none, .op (.move (.tmp 121))⟩])
                  (.ret))))))))))))))))
def r4 : List LRes := [.tmp 4]
theorem body4 : Try.f4.body.bind (compileC Try.prog) = some c4 := by kernel_rfl
theorem res4 : compileRes Try.prog Try.f4.results.toList = some r4 := by kernel_rfl
theorem has4 : hasBody Try.prog 4 = true := by kernel_rfl
theorem enter4 {args : LVals} {h : LHeap} {R : LEnd → LHeap → Prop} (hk : 122 - lvsLen args = 120) (hw : initK args 120 fun t => lwp Try.prog h.length c4 (bodyQ r4 R) t h) : LCalls Try.prog 4 args h R := LCalls.enter Try.func4 body4 has4 res4 _ (by rw [Try.ntmps4]; exact hk) hw
/-- palatine/palatinelaw10.FrameAll -/
def c5 : LCode :=
  .seq
   (.region [⟨(some 2), none, .op (.move (.const (.bool false)))⟩])
   (.seq
    (.region [⟨(some 12), none, .call 18 []⟩,
      ⟨(some 3), none, .op (.move (.tmp 12))⟩])
    (.seq
     (.region [⟨(some 13), none, .call 19 []⟩,
       ⟨(some 4), none, .op (.move (.tmp 13))⟩])
     (.seq
      (.seq
       (.region [⟨(some 14), none, .op (.move (.tmp 4))⟩,
         ⟨(some 15), none, .op (.peq false (.tmp 14) (.const .nilp))⟩])
       (.cond (.tmp 15)
        (.seq
         (.region [⟨(some 2), none, .op (.move (.const (.bool false)))⟩])
         (.ret))
        (.skip)))
      (.seq
       (.region [⟨(some 5), none, .op (.move (.const (.str ⟨#[]⟩)))⟩])
       (.seq
        (.region [⟨(some 6), none, .op (.move (.const (.str ⟨#[]⟩)))⟩])
        (.seq
         (.seq
          (.region [⟨(some 7), none, .op (.move (.const (.int .i64 0)))⟩])
          (.block 0
           (.loop
            (.seq
             (.seq
              (.region [⟨(some 16), none, .op (.move (.tmp 7))⟩,
                ⟨(some 17), none, .op (.move (.tmp 0))⟩,
                ⟨(some 18), none, .op (.lenSl (.tmp 17))⟩,
                ⟨(some 19), none, .op (.bin .lss (.tmp 16) (.tmp 18))⟩,
                ⟨(some 20), none, .op (.move (.tmp 19))⟩,
                ⟨(some 21), some (20, true), .op (.move (.tmp 7))⟩,
                ⟨(some 22), some (20, true), .op (.bin .lss (.tmp 21) (.const (.int .i64 100)))⟩,
                ⟨(some 23), none, .op (.pick (.tmp 20) (.tmp 22) (.const (.bool false)))⟩])
              (.cond (.tmp 23)
               (.skip)
               (.exit 0)))
             (.seq
              (.block 1
               (.seq
                (.region [⟨(some 27), none, .op (.move (.tmp 4))⟩,
                  ⟨(some 28), none, .op (.move (.tmp 0))⟩,
                  ⟨(some 29), none, .op (.move (.tmp 7))⟩,
                  ⟨(some 30), none, .op (.idxSl 1 (.tmp 28) (.tmp 29))⟩,
                  ⟨(some 31), none, .op (.load none (.tmp 30))⟩,
                  ⟨(some 32), none, .call 20 [(.tmp 27), (.tmp 31)]⟩,
                  ⟨(some 26), none, .op (.move (.tmp 32))⟩,
                  ⟨(some 33), none, .op (.ext 0 (.tmp 26))⟩,
                  ⟨(some 34), none, .op (.ext 1 (.tmp 26))⟩,
                  ⟨(some 8), none, .op (.move (.tmp 33))⟩,
                  ⟨(some 9), none, .op (.move (.tmp 34))⟩])
                (.seq
                 (.region [⟨(some 35), none, .op (.move (.tmp 5))⟩,
                   ⟨(some 36), none, .op (.move (.tmp 0))⟩,
                   ⟨(some 37), none, .op (.move (.tmp 7))⟩,
                   ⟨(some 38), none, .op (.idxSl 1 (.tmp 36) (.tmp 37))⟩,
                   ⟨(some 39), none, .op (.load none (.tmp 38))⟩,
                   ⟨(some 40), none, .op (.bin .add (.tmp 35) (.tmp 39))⟩,
                   ⟨(some 5), none, .op (.move (.tmp 40))⟩])
                 (.seq
                  (.seq
                   (.region [⟨(some 10), none, .op (.move (.const (.int .i64 0)))⟩])
                   (.block 2
                    (.loop
                     (.seq
                      (.seq
                       (.region [⟨(some 41), none, .op (.move (.tmp 10))⟩,
                         ⟨(some 42), none, .op (.move (.tmp 8))⟩,
                         ⟨(some 43), none, .op (.lenSl (.tmp 42))⟩,
                         ⟨(some 44), none, .op (.bin .lss (.tmp 41) (.tmp 43))⟩])
                       (.cond (.tmp 44)
                        (.skip)
                        (.exit 2)))
                      (.seq
                       (.block 3
                        (.seq
                         (.seq
                          (.region [⟨(some 47), none, .op (.move (.tmp 8))⟩,
                            ⟨(some 48), none, .op (.move (.tmp 10))⟩,
                            ⟨(some 49), none, .op (.idxSl 1 (.tmp 47) (.tmp 48))⟩,
                            ⟨(some 50), none, .op (.load none (.tmp 49))⟩,
                            ⟨(some 51), none, .op (.lenStr (.tmp 50))⟩,
                            ⟨(some 52), none, .op (.bin .lss (.tmp 51) (.const (.int .i64 2)))⟩,
                            ⟨(some 53), none, .op (.move (.tmp 52))⟩,
                            ⟨(some 54), some (53, false), .op (.move (.tmp 8))⟩,
                            ⟨(some 55), some (53, false), .op (.move (.tmp 10))⟩,
                            ⟨(some 56), some (53, false), .op (.idxSl 1 (.tmp 54) (.tmp 55))⟩,
                            ⟨(some 57), some (53, false), .op (.load none (.tmp 56))⟩,
                            ⟨(some 58), some (53, false), .op (.idxStr (.tmp 57) (.const (.int .i64 0)))⟩,
                            ⟨(some 59), some (53, false), .op (.bin .neq (.tmp 58) (.const (.int .u8 48)))⟩,
                            ⟨(some 60), none, .op (.pick (.tmp 53) (.const (.bool true)) (.tmp 59))⟩])
                          (.cond (.tmp 60)
                           (.seq
                            (.region [⟨(some 2), none, .op (.move (.const (.bool false)))⟩])
                            (.ret))
                           (.skip)))
                         (.region [⟨(some 61), none, .op (.move (.tmp 6))⟩,
                           ⟨(some 62), none, .op (.move (.tmp 8))⟩,
                           ⟨(some 63), none, .op (.move (.tmp 10))⟩,
                           ⟨(some 64), none, .op (.idxSl 1 (.tmp 62) (.tmp 63))⟩,
                           ⟨(some 65), none, .op (.load none (.tmp 64))⟩,
                           ⟨(some 66), none, .op (.bin .add (.tmp 61) (.tmp 65))⟩,
                           ⟨(some 6), none, .op (.move (.tmp 66))⟩])))
                       (.region [⟨(some 45), none, .op (.move (.tmp 10))⟩,
                         ⟨(some 46), none, .op (.bin .add (.tmp 45) (.const (.int .i64 1)))⟩,
                         ⟨(some 10), none, .op (.move (.tmp 46))⟩]))))))
                  (.seq
                   (.region [⟨(some 67), none, .op (.move (.tmp 4))⟩,
                     ⟨(some 68), none, .call 23 [(.tmp 67)]⟩,
                     ⟨(some 11), none, .op (.move (.tmp 68))⟩])
                   (.seq
                    (.seq
                     (.region [⟨(some 69), none, .op (.move (.tmp 6))⟩,
                       ⟨(some 70), none, .op (.lenStr (.tmp 69))⟩,
                       ⟨(some 71), none, .op (.move (.tmp 11))⟩,
                       ⟨(some 72), none, .op (.bin .add (.tmp 70) (.tmp 71))⟩,
                       ⟨(some 73), none, .op (.move (.tmp 5))⟩,
                       ⟨(some 74), none, .op (.lenStr (.tmp 73))⟩,
                       ⟨(some 75), none, .op (.bin .gtr (.tmp 72) (.tmp 74))⟩,
                       ⟨(some 76), none, .op (.move (.tmp 75))⟩,
                       ⟨(some 77), some (76, false), .op (.move (.tmp 5))⟩,
                       ⟨(some 78), some (76, false), .op (.move (.tmp 6))⟩,
                       ⟨(some 79), some (76, false), .op (.lenStr (.tmp 78))⟩,
                       ⟨(some 80), some (76, false), .op (.slStr (.tmp 77) none (some (.tmp 79)))⟩,
                       ⟨(some 81), some (76, false), .op (.move (.tmp 6))⟩,
                       ⟨(some 82), some (76, false), .op (.bin .neq (.tmp 80) (.tmp 81))⟩,
                       ⟨(some 83), none, .op (.pick (.tmp 76) (.const (.bool true)) (.tmp 82))⟩])
                     (.cond (.tmp 83)
                      (.seq
                       (.region [⟨(some 2), none, .op (.move (.const (.bool false)))⟩])
                       (.ret))
                      (.skip)))
                    (.seq
                     (.seq
                      (.region [⟨(some 84), none, .op (.move (.tmp 9))⟩,
                        ⟨(some 85), none, .op (.bin .neq (.tmp 84) (.const (.int .i64 0)))⟩])
                      (.cond (.tmp 85)
                       (.seq
                        (.region [⟨(some 86), none, .op (.move (.tmp 3))⟩,
                          ⟨(some 87), none, .op (.move (.tmp 86))⟩,
                          ⟨(some 88), some (87, true), .op (.move (.tmp 9))⟩,
                          ⟨(some 89), some (87, true), .op (.bin .eql (.tmp 88) (.const (.int .i64 100)))⟩,
                          ⟨(some 90), none, .op (.pick (.tmp 87) (.tmp 89) (.const (.bool false)))⟩,
                          ⟨(some 91), none, .op (.move (.tmp 90))⟩,
                          ⟨(some 92), some (91, true), .op (.move (.tmp 11))⟩,
                          ⟨(some 93), some (91, true), .op (.bin .eql (.tmp 92) (.const (.int .i64 0)))⟩,
                          ⟨(some 94), none, .op (.pick (.tmp 91) (.tmp 93) (.const (.bool false)))⟩,
                          ⟨(some 2), none, .op (.move (.tmp 94))⟩])
                        (.ret))
                       (.skip)))
                     (.seq
                      (.region [⟨(some 95), none, .op (.move (.tmp 6))⟩,
                        ⟨(some 96), none, .op (.lenStr (.tmp 95))⟩,
                        ⟨(some 97), none, .op (.move (.tmp 11))⟩,
                        ⟨(some 98), none, .op (.bin .add (.tmp 96) (.tmp 97))⟩,
                        ⟨(some 99), none, .op (.move (.tmp 5))⟩,
                        ⟨(some 100), none, .op (.lenStr (.tmp 99))⟩,
                        ⟨(some 101), none, .op (.bin .neq (.tmp 98) (.tmp 100))⟩])
                      (.cond (.tmp 101)
                       (.seq
                        (.region [⟨(some 2), none, .op (.move (.const (.bool false)))⟩])
                        (.ret))
                       (.skip))))))))))
              (.region [⟨(some 24), none, .op (.move (.tmp 7))⟩,
                ⟨(some 25), none, .op (.bin .add (.tmp 24) (.const (.int .i64 1)))⟩,
                ⟨(some 7), none, .op (.move (.tmp 25))⟩]))))))
         (.seq
          (.region [⟨(some 102), none, .op (.move (.tmp 3))⟩,
            ⟨(some 2), none, .op (.move (.tmp 102))⟩])
          (.ret))))))))
def r5 : List LRes := [.tmp 2]
theorem body5 : Try.f5.body.bind (compileC Try.prog) = some c5 := by kernel_rfl
theorem res5 : compileRes Try.prog Try.f5.results.toList = some r5 := by kernel_rfl
theorem has5 : hasBody Try.prog 5 = true := by kernel_rfl
theorem enter5 {args : LVals} {h : LHeap} {R : LEnd → LHeap → Prop} (hk : 103 - lvsLen args = 102) (hw : initK args 102 fun t => lwp Try.prog h.length c5 (bodyQ r5 R) t h) : LCalls Try.prog 5 args h R := LCalls.enter Try.func5 body5 has5 res5 _ (by rw [Try.ntmps5]; exact hk) hw
/-- palatine/palatinelaw10.FrameBack -/
def c6 : LCode :=
  .seq
   (.region [⟨(some 2), none, .op (.move (.const (.bool false)))⟩])
   (.seq
    (.region [⟨(some 14), none, .call 18 []⟩,
      ⟨(some 3), none, .op (.move (.tmp 14))⟩])
    (.seq
     (.region [⟨(some 15), none, .call 19 []⟩,
       ⟨(some 4), none, .op (.move (.tmp 15))⟩])
     (.seq
      (.seq
       (.region [⟨(some 16), none, .op (.move (.tmp 4))⟩,
         ⟨(some 17), none, .op (.peq false (.tmp 16) (.const .nilp))⟩])
       (.cond (.tmp 17)
        (.seq
         (.region [⟨(some 2), none, .op (.move (.const (.bool false)))⟩])
         (.ret))
        (.skip)))
      (.seq
       (.region [⟨(some 5), none, .op (.move (.const (.str ⟨#[]⟩)))⟩])
       (.seq
        (.region [⟨(some 6), none, .op (.move (.const (.slice ⟨0, [], 0⟩ 0 0 0 0 (some 0))))⟩])
        (.seq
         (.seq
          (.region [⟨(some 7), none, .op (.move (.const (.int .i64 0)))⟩])
          (.block 0
           (.loop
            (.seq
             (.seq
              (.region [⟨(some 18), none, .op (.move (.tmp 7))⟩,
                ⟨(some 19), none, .op (.move (.tmp 0))⟩,
                ⟨(some 20), none, .op (.lenSl (.tmp 19))⟩,
                ⟨(some 21), none, .op (.bin .lss (.tmp 18) (.tmp 20))⟩,
                ⟨(some 22), none, .op (.move (.tmp 21))⟩,
                ⟨(some 23), some (22, true), .op (.move (.tmp 7))⟩,
                ⟨(some 24), some (22, true), .op (.bin .lss (.tmp 23) (.const (.int .i64 30)))⟩,
                ⟨(some 25), none, .op (.pick (.tmp 22) (.tmp 24) (.const (.bool false)))⟩])
              (.cond (.tmp 25)
               (.skip)
               (.exit 0)))
             (.seq
              (.block 1
               (.seq
                (.region [⟨(some 29), none, .op (.move (.tmp 0))⟩,
                  ⟨(some 30), none, .op (.move (.tmp 7))⟩,
                  ⟨(some 31), none, .op (.idxSl 1 (.tmp 29) (.tmp 30))⟩,
                  ⟨(some 32), none, .op (.load none (.tmp 31))⟩,
                  ⟨(some 33), none, .op (.bst (.one (.int .i64 0) (.one (.str ⟨#[]⟩) (.one (.slice ⟨0, [], 0⟩ 0 0 0 0 (some 0)) .nil))) [(0, 1, (.const (.int .i64 4))), (1, 1, (.tmp 32))])⟩,
                  ⟨(some 34), none, .op (.bsl 3 1 40 (.one (.int .i64 0) (.one (.str ⟨#[]⟩) (.one (.slice ⟨0, [], 0⟩ 0 0 0 0 (some 0)) .nil))) [(0, (.tmp 33))])⟩,
                  ⟨(some 35), none, .op (.bst (.one (.int .i64 0) (.one (.str ⟨#[]⟩) (.one (.slice ⟨0, [], 0⟩ 0 0 0 0 (some 0)) .nil))) [(0, 1, (.const (.int .i64 48))), (2, 1, (.tmp 34))])⟩,
                  ⟨(some 36), none, .call 25 [(.tmp 35)]⟩,
                  ⟨(some 28), none, .op (.move (.tmp 36))⟩,
                  ⟨(some 37), none, .op (.ext 0 (.tmp 28))⟩,
                  ⟨(some 38), none, .op (.ext 1 (.tmp 28))⟩,
                  ⟨(some 8), none, .op (.move (.tmp 37))⟩,
                  ⟨(some 9), none, .op (.move (.tmp 38))⟩])
                (.seq
                 (.region [⟨(some 39), none, .op (.move (.tmp 9))⟩,
                   ⟨(some 40), none, .op (.bin .eql (.tmp 39) (.const (.int .i64 0)))⟩])
                 (.cond (.tmp 40)
                  (.seq
                   (.region [⟨(some 41), none, .op (.move (.tmp 5))⟩,
                     ⟨(some 42), none, .op (.move (.tmp 8))⟩,
                     ⟨(some 43), none, .op (.bin .add (.tmp 41) (.tmp 42))⟩,
                     ⟨(some 5), none, .op (.move (.tmp 43))⟩])
                   (.region [⟨(some 44), none, .op (.move (.tmp 6))⟩,
                     ⟨(some 45), none, .op (.move (.tmp 8))⟩,
                     ⟨(some 46), none, .op (.bsl 1 1 9 (.one (.str ⟨#[]⟩) .nil) [(0, (.tmp 45))])⟩,
                     ⟨(some 47), none, .op (.app 1 16 9 (.tmp 44) (.tmp 46))⟩,
                     ⟨(some 6), none, .op (.move (.tmp 47))⟩]))
                  (.skip)))))
              (.region [⟨(some 26), none, .op (.move (.tmp 7))⟩,
                ⟨(some 27), none, .op (.bin .add (.tmp 26) (.const (.int .i64 1)))⟩,
                ⟨(some 7), none, .op (.move (.tmp 27))⟩]))))))
         (.seq
          (.region [⟨(some 49), none, .op (.move (.tmp 4))⟩,
            ⟨(some 50), none, .op (.move (.tmp 5))⟩,
            ⟨(some 51), none, .call 20 [(.tmp 49), (.tmp 50)]⟩,
            ⟨(some 48), none, .op (.move (.tmp 51))⟩,
            ⟨(some 52), none, .op (.ext 0 (.tmp 48))⟩,
            ⟨(some 53), none, .op (.ext 1 (.tmp 48))⟩,
            ⟨(some 10), none, .op (.move (.tmp 52))⟩,
            ⟨(some 11), none, .op (.move (.tmp 53))⟩])
          (.seq
           (.region [⟨(some 54), none, .op (.move (.tmp 10))⟩,
             ⟨(some 55), none, .op (.move (.tmp 6))⟩,
             ⟨(some 56), none, .call 22 [(.tmp 54), (.tmp 55)]⟩,
             ⟨(some 12), none, .op (.move (.tmp 56))⟩])
           (.seq
            (.region [⟨(some 57), none, .op (.move (.tmp 4))⟩,
              ⟨(some 58), none, .call 23 [(.tmp 57)]⟩,
              ⟨(some 13), none, .op (.move (.tmp 58))⟩])
            (.seq
             (.region [⟨(some 59), none, .op (.move (.tmp 3))⟩,
               ⟨(some 60), none, .op (.move (.tmp 59))⟩,
               ⟨(some 61), some (60, true), .op (.move (.tmp 11))⟩,
               ⟨(some 62), some (60, true), .op (.bin .eql (.tmp 61) (.const (.int .i64 0)))⟩,
               ⟨(some 63), none, .op (.pick (.tmp 60) (.tmp 62) (.const (.bool false)))⟩,
               ⟨(some 64), none, .op (.move (.tmp 63))⟩,
               ⟨(some 65), some (64, true), .op (.move (.tmp 12))⟩,
               ⟨(some 66), none, .op (.pick (.tmp 64) (.tmp 65) (.const (.bool false)))⟩,
               ⟨(some 67), none, .op (.move (.tmp 66))⟩,
               ⟨(some 68), some (67, true), .op (.move (.tmp 13))⟩,
               ⟨(some 69), some (67, true), .op (.bin .eql (.tmp 68) (.const (.int .i64 0)))⟩,
               ⟨(some 70), none, .op (.pick (.tmp 67) (.tmp 69) (.const (.bool false)))⟩,
               ⟨(some 2), none, .op (.move (.tmp 70))⟩])
             (.ret)))))))))))
def r6 : List LRes := [.tmp 2]
theorem body6 : Try.f6.body.bind (compileC Try.prog) = some c6 := by kernel_rfl
theorem res6 : compileRes Try.prog Try.f6.results.toList = some r6 := by kernel_rfl
theorem has6 : hasBody Try.prog 6 = true := by kernel_rfl
theorem enter6 {args : LVals} {h : LHeap} {R : LEnd → LHeap → Prop} (hk : 71 - lvsLen args = 70) (hw : initK args 70 fun t => lwp Try.prog h.length c6 (bodyQ r6 R) t h) : LCalls Try.prog 6 args h R := LCalls.enter Try.func6 body6 has6 res6 _ (by rw [Try.ntmps6]; exact hk) hw
end Go.Proofs.Ytbojbofakmihmaa.Fk
