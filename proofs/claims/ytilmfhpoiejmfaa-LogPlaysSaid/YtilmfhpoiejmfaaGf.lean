/- Functions' codes on the heap of the mind. Written by a program of this session. -/
import Derived.Test.YtilmfhpoiejmfaaProg
import Derived.Test.YtilmfhpoiejmfaaLhs
namespace Go.Proofs.Ytilmfhpoiejmfaa.Gk
open Go.Proofs.Ytilmfhpoiejmfaa.Lh
set_option maxRecDepth 100000
set_option linter.unusedSectionVars false
variable [Fz]
/-- palatine/palatineref03.Sectors -/
def c40 : LCode := .seq (.region [⟨(some 2), none, .op (.move (.const (.int .i64 0)))⟩]) (.seq (.region [⟨(some 3), none, .op (.move (.const (.int .i64 1)))⟩]) (.seq (.block 0 (.loop (.seq (.seq (.region [⟨(some 4), none, .op (.move (.tmp 0))⟩, ⟨(some 5), none, .op (.bin .gtr (.tmp 4) (.const (.int .i64 48)))⟩]) (.cond (.tmp 5) (.skip) (.exit 0))) (.block 1 (.seq (.region [⟨(some 6), none, .op (.move (.tmp 3))⟩, ⟨(some 7), none, .op (.bin .add (.tmp 6) (.const (.int .i64 1)))⟩, ⟨(some 3), none, .op (.move (.tmp 7))⟩]) (.region [⟨(some 8), none, .op (.move (.tmp 0))⟩, ⟨(some 9), none, .op (.bin .sub (.tmp 8) (.const (.int .i64 48)))⟩, ⟨(some 0), none, .op (.move (.tmp 9))⟩])))))) (.seq (.region [⟨(some 10), none, .op (.move (.tmp 3))⟩, ⟨(some 2), none, .op (.move (.tmp 10))⟩]) (.ret))))
def r40 : List LRes := [.tmp 2]
theorem body40 : Try.f40.body.bind (compileC Try.prog) = some c40 := by kernel_rfl
theorem res40 : compileRes Try.prog Try.f40.results.toList = some r40 := by kernel_rfl
theorem has40 : hasBody Try.prog 40 = true := by kernel_rfl
theorem enter40 {args : LVals} {h : LHeap} {R : LEnd → LHeap → Prop} (hk : 11 - lvsLen args = 10) (hw : initK args 10 fun t => lwp Try.prog h.length c40 (bodyQ r40 R) t h) : LCalls Try.prog 40 args h R := LCalls.enter Try.func40 body40 has40 res40 _ (by rw [Try.ntmps40]; exact hk) hw
/-- palatine/palatineref03.Texts -/
def c42 : LCode := .seq (.region [⟨(some 4), none, .op (.move (.const (.bool false)))⟩]) (.seq (.seq (.region [⟨(some 6), none, .op (.move (.tmp 0))⟩, ⟨(some 7), none, .op (.lenSl (.tmp 6))⟩, ⟨(some 8), none, .op (.move (.tmp 1))⟩, ⟨(some 9), none, .op (.lenSl (.tmp 8))⟩, ⟨(some 10), none, .op (.bin .neq (.tmp 7) (.tmp 9))⟩]) (.cond (.tmp 10) (.seq (.region [⟨(some 4), none, .op (.move (.const (.bool false)))⟩]) (.ret)) (.skip))) (.seq (.seq (.region [⟨(some 5), none, .op (.move (.const (.int .i64 0)))⟩]) (.block 0 (.loop (.seq (.seq (.region [⟨(some 11), none, .op (.move (.tmp 5))⟩, ⟨(some 12), none, .op (.move (.tmp 0))⟩, ⟨(some 13), none, .op (.lenSl (.tmp 12))⟩, ⟨(some 14), none, .op (.bin .lss (.tmp 11) (.tmp 13))⟩]) (.cond (.tmp 14) (.skip) (.exit 0))) (.seq (.block 1 (.seq (.draws [(0, [], ⟨(some 17), none, .op (.move (.tmp 0))⟩), (1, [0], ⟨(some 18), none, .op (.move (.tmp 5))⟩), (2, [], ⟨(some 19), none, .op (.idxSl 1 (.tmp 17) (.tmp 18))⟩), (3, [], ⟨(some 20), none, .op (.load none (.tmp 19))⟩), (4, [0, 1, 2, 3], ⟨(some 21), none, .op (.move (.tmp 1))⟩), (5, [0, 1, 2, 3, 4], ⟨(some 22), none, .op (.move (.tmp 5))⟩), (6, [0, 1, 2, 3], ⟨(some 23), none, .op (.idxSl 1 (.tmp 21) (.tmp 22))⟩), (7, [0, 1, 2, 3], ⟨(some 24), none, .op (.load none (.tmp 23))⟩), (8, [], ⟨(some 25), none, .op (.bin .neq (.tmp 20) (.tmp 24))⟩)]) (.cond (.tmp 25) (.seq (.region [⟨(some 4), none, .op (.move (.const (.bool false)))⟩]) (.ret)) (.skip)))) (.region [⟨(some 15), none, .op (.move (.tmp 5))⟩, ⟨(some 16), none, .op (.bin .add (.tmp 15) (.const (.int .i64 1)))⟩, ⟨(some 5), none, .op (.move (.tmp 16))⟩])))))) (.seq (.region [⟨(some 4), none, .op (.move (.const (.bool true)))⟩]) (.ret))))
def r42 : List LRes := [.tmp 4]
theorem body42 : Try.f42.body.bind (compileC Try.prog) = some c42 := by kernel_rfl
theorem res42 : compileRes Try.prog Try.f42.results.toList = some r42 := by kernel_rfl
theorem has42 : hasBody Try.prog 42 = true := by kernel_rfl
theorem enter42 {args : LVals} {h : LHeap} {R : LEnd → LHeap → Prop} (hk : 26 - lvsLen args = 24) (hw : initK args 24 fun t => lwp Try.prog h.length c42 (bodyQ r42 R) t h) : LCalls Try.prog 42 args h R := LCalls.enter Try.func42 body42 has42 res42 _ (by rw [Try.ntmps42]; exact hk) hw
end Go.Proofs.Ytilmfhpoiejmfaa.Gk
