/- Ta Re Rh Rf: joined texts of this claim. No condition. -/
import Derived.Test.YtbiejiangdbcmaaDoorProg
import Derived.Test.YtbiejiangdbcmaaDoorJgjc
import Derived.WalkKit
import Derived.LaidEql
import Derived.Stop.Asserts
import Derived.RowKitTokens
namespace Go.Proofs.YtbiejiangdbcmaaDoor.Tx
open Go Go.Proofs Go.Proofs.YtbiejiangdbcmaaDoor.Mw
set_option linter.unusedVariables false
set_option maxRecDepth 20000
-- swage/swagelaw16.CopiesChain
noncomputable def X4 : Fi := ⟨(.seq (.sets [(4, (.k (.bool false)))] []) (.seq (.act (some 13) (.call 7 [])) (.seq (.sets [(14, (.un .not (.s 13)))] []) (.seq (.ite (.s 14) (.seq (.sets [(4, (.k (.bool false)))] []) .ret) .nop) (.seq (.sets [(5, (.bin .add (.k (.int .i64 2)) (.bin .and (.s 0) (.k (.int .i64 7)))))] []) (.seq (.sets [(6, (.cvt .i64 (.bin .rem (.cvt .u64 (.s 1)) (.cvt .u64 (.s 5)))))] []) (.seq (.sets [(24, (.bld [(.int .i64 0), (.int .i64 0)] [(1, 1)] (.cs (.k (.int .i64 1)) .nl))), (25, (.bld [(.int .i64 0), (.int .i64 0)] [(0, 1)] (.cs (.k (.int .i64 16)) .nl)))] []) (.seq (.act (some 26) (.bslice 40 2 [(.int .i64 0), (.int .i64 0), (.int .i64 0), (.int .i64 0)] 2 [(0, (.tmp 24)), (1, (.tmp 25))])) (.seq (.sets [(27, (.bld [(.int .i64 0), (.int .i64 0), (.slice none 0 0)] [(1, 1), (2, 1)] (.cs (.k (.int .i64 1)) (.cs (.s 26) .nl))))] []) (.seq (.act (some 28) (.bslice 43 3 [(.int .i64 0), (.int .i64 0), (.slice none 0 0)] 1 [(0, (.tmp 27))])) (.seq (.sets [(29, (.bld [(.slice none 0 0)] [(0, 1)] (.cs (.s 28) .nl)))] []) (.seq (.act (some 7) (.var 24 1 (.tmp 29))) (.seq (.sets [(8, (.k (.slice none 0 0)))] []) (.seq (.sets [(9, (.k (.int .i64 0)))] []) (.seq (.block 0 (.loop (.seq (.sets [(32, (.bin .lss (.s 9) (.s 5)))] []) (.seq (.ite (.s 32) .nop (.exit 0)) (.seq (.block 1 (.seq (.sets [(35, (.s 8)), (39, (.bld [(.int .i64 0), (.int .i64 0), (.int .i64 0), (.int .i64 0), (.int .i64 0), (.slice none 0 0), (.int .i64 0), (.int .i64 0), (.int .i64 0)] [(0, 1), (1, 1), (2, 1), (6, 1)] (.cs (.k (.int .i64 2)) (.cs (.bin .add (.s 9) (.k (.int .i64 1))) (.cs (.s 9) (.cs (.k (.int .i64 1)) .nl))))))] []) (.seq (.act (some 40) (.bslice 37 9 [(.int .i64 0), (.int .i64 0), (.int .i64 0), (.int .i64 0), (.int .i64 0), (.slice none 0 0), (.int .i64 0), (.int .i64 0), (.int .i64 0)] 1 [(0, (.tmp 39))])) (.seq (.act (some 41) (.app 37 9 88 (.tmp 35) (.tmp 40))) (.sets [(8, (.s 41))] []))))) (.sets [(9, (.bin .add (.s 9) (.k (.int .i64 1))))] [])))))) (.seq (.sets [(42, (.s 8)), (45, (.bld [(.int .i64 0), (.int .i64 0), (.int .i64 0), (.int .i64 0), (.int .i64 0), (.slice none 0 0), (.int .i64 0), (.int .i64 0), (.int .i64 0)] [(0, 1), (2, 1), (6, 1)] (.cs (.k (.int .i64 7)) (.cs (.bin .add (.s 6) (.k (.int .i64 1))) (.cs (.k (.int .i64 1)) .nl))))), (46, (.bld [(.int .i64 0), (.int .i64 0), (.int .i64 0), (.int .i64 0), (.int .i64 0), (.slice none 0 0), (.int .i64 0), (.int .i64 0), (.int .i64 0)] [(0, 1), (1, 1), (4, 1), (6, 1)] (.cs (.k (.int .i64 1)) (.cs (.k (.int .i64 0)) (.cs (.k (.int .i64 5)) (.cs (.k (.int .i64 1)) .nl)))))), (49, (.bld [(.int .i64 0), (.int .i64 0), (.int .i64 0), (.int .i64 0), (.int .i64 0), (.slice none 0 0), (.int .i64 0), (.int .i64 0), (.int .i64 0)] [(0, 1), (2, 1), (6, 1)] (.cs (.k (.int .i64 7)) (.cs (.bin .add (.s 6) (.k (.int .i64 1))) (.cs (.k (.int .i64 1)) .nl))))), (50, (.bld [(.int .i64 0), (.int .i64 0), (.int .i64 0), (.int .i64 0), (.int .i64 0), (.slice none 0 0), (.int .i64 0), (.int .i64 0), (.int .i64 0)] [(0, 1), (2, 1), (6, 1)] (.cs (.k (.int .i64 8)) (.cs (.k (.int .i64 0)) (.cs (.k (.int .i64 1)) .nl)))))] []) (.seq (.act (some 51) (.bslice 37 9 [(.int .i64 0), (.int .i64 0), (.int .i64 0), (.int .i64 0), (.int .i64 0), (.slice none 0 0), (.int .i64 0), (.int .i64 0), (.int .i64 0), (.int .i64 0), (.int .i64 0), (.int .i64 0), (.int .i64 0), (.int .i64 0), (.slice none 0 0), (.int .i64 0), (.int .i64 0), (.int .i64 0), (.int .i64 0), (.int .i64 0), (.int .i64 0), (.int .i64 0), (.int .i64 0), (.slice none 0 0), (.int .i64 0), (.int .i64 0), (.int .i64 0), (.int .i64 0), (.int .i64 0), (.int .i64 0), (.int .i64 0), (.int .i64 0), (.slice none 0 0), (.int .i64 0), (.int .i64 0), (.int .i64 0)] 4 [(0, (.tmp 45)), (1, (.tmp 46)), (2, (.tmp 49)), (3, (.tmp 50))])) (.seq (.act (some 52) (.app 37 9 88 (.tmp 42) (.tmp 51))) (.seq (.sets [(8, (.s 52))] []) (.seq (.sets [(54, (.ldn 1 (.s 7))), (58, (.bld [(.int .i64 0), (.int .i64 0), (.slice none 0 0), (.slice none 0 0)] [(1, 1), (2, 1)] (.cs (.bin .add (.s 5) (.k (.int .i64 1))) (.cs (.s 8) .nl))))] []) (.seq (.act (some 59) (.call 8 [(.tmp 54), (.tmp 58)])) (.seq (.sets [(60, (.ext 0 (.s 59))), (61, (.ext 1 (.s 59)))] []) (.seq (.act (some 10) (.var 28 4 (.tmp 60))) (.seq (.sets [(11, (.s 61))] []) (.seq (.sets [(62, (.s 11))] []) (.seq (.act (some 63) (.call 9 [(.tmp 62)])) (.seq (.sets [(72, (.or (.bin .neq (.s 63) (.k (.int .i64 0))) (.bin .neq (.len (.ld (.fa 2 (.s 10)))) (.bin .add (.s 5) (.k (.int .i64 4))))))] []) (.seq (.ite (.s 72) (.seq (.sets [(4, (.k (.bool false)))] []) .ret) .nop) (.seq (.sets [(12, (.k (.int .i64 0)))] []) (.seq (.block 2 (.loop (.seq (.sets [(75, (.bin .lss (.s 12) (.s 5)))] []) (.seq (.ite (.s 75) .nop (.exit 2)) (.seq (.block 3 (.seq (.sets [(82, (.ldn 9 (.ix 9 (.ld (.fa 2 (.s 10))) (.s 12)))), (85, (.bld [(.int .i64 0), (.int .i64 0), (.int .i64 0), (.int .i64 0), (.int .i64 0), (.slice none 0 0), (.int .i64 0), (.int .i64 0), (.int .i64 0)] [(0, 1), (1, 1), (2, 1), (6, 1)] (.cs (.k (.int .i64 2)) (.cs (.bin .add (.s 12) (.k (.int .i64 1))) (.cs (.k (.int .i64 0)) (.cs (.k (.int .i64 1)) .nl))))))] []) (.seq (.act (some 86) (.call 11 [(.tmp 82), (.tmp 85)])) (.seq (.sets [(87, (.un .not (.s 86)))] []) (.ite (.s 87) (.seq (.sets [(4, (.k (.bool false)))] []) .ret) .nop))))) (.sets [(12, (.bin .add (.s 12) (.k (.int .i64 1))))] [])))))) (.seq (.sets [(92, (.ldn 9 (.ix 9 (.ld (.fa 2 (.s 10))) (.s 5)))), (93, (.bld [(.int .i64 0), (.int .i64 0), (.int .i64 0), (.int .i64 0), (.int .i64 0), (.slice none 0 0), (.int .i64 0), (.int .i64 0), (.int .i64 0)] [(0, 1), (2, 1), (6, 1)] (.cs (.k (.int .i64 7)) (.cs (.k (.int .i64 0)) (.cs (.k (.int .i64 1)) .nl)))))] []) (.seq (.act (some 94) (.call 11 [(.tmp 92), (.tmp 93)])) (.seq (.sets [(95, (.s 94)), (101, (.grd (.s 94) true (.ldn 9 (.ix 9 (.ld (.fa 2 (.s 10))) (.bin .add (.s 5) (.k (.int .i64 2))))))), (104, (.grd (.s 94) true (.bld [(.int .i64 0), (.int .i64 0), (.int .i64 0), (.int .i64 0), (.int .i64 0), (.slice none 0 0), (.int .i64 0), (.int .i64 0), (.int .i64 0)] [(0, 1), (2, 1), (6, 1)] (.cs (.k (.int .i64 7)) (.cs (.bin .add (.s 6) (.k (.int .i64 1))) (.cs (.k (.int .i64 1)) .nl))))))] []) (.seq (.ite (.s 95) (.act (some 105) (.call 11 [(.tmp 101), (.tmp 104)])) (.sets [(105, (.k (.tuple #[])))] [])) (.seq (.sets [(107, (.pick (.s 95) (.s 105) (.k (.bool false)))), (113, (.grd (.pick (.s 95) (.s 105) (.k (.bool false))) true (.ldn 9 (.ix 9 (.ld (.fa 2 (.s 10))) (.bin .add (.s 5) (.k (.int .i64 3))))))), (114, (.grd (.pick (.s 95) (.s 105) (.k (.bool false))) true (.bld [(.int .i64 0), (.int .i64 0), (.int .i64 0), (.int .i64 0), (.int .i64 0), (.slice none 0 0), (.int .i64 0), (.int .i64 0), (.int .i64 0)] [(0, 1), (6, 1)] (.cs (.k (.int .i64 8)) (.cs (.k (.int .i64 1)) .nl)))))] []) (.seq (.ite (.s 107) (.act (some 115) (.call 11 [(.tmp 113), (.tmp 114)])) (.sets [(115, (.k (.tuple #[])))] [])) (.seq (.sets [(4, (.pick (.s 107) (.s 115) (.k (.bool false))))] []) .ret))))))))))))))))))))))))))))))))))))), (.s 4), 117, [0, 1, 4, 5, 6, 7, 8, 9, 10, 11, 12, 14, 32, 72, 75, 87], [], []⟩
theorem x4 : fiOf Tryd.prog 4 [0, 1, 4, 5, 6, 7, 8, 9, 10, 11, 12, 14, 32, 72, 75, 87] [] = some X4 := by kernel_rfl

-- swage/swagelaw15.FoldGuards
noncomputable def X6 : Fi := ⟨(.seq (.sets [(6, (.k (.bool false)))] []) (.seq (.act (some 15) (.call 12 [])) (.seq (.sets [(16, (.un .not (.s 15)))] []) (.seq (.ite (.s 16) (.seq (.sets [(6, (.k (.bool false)))] []) .ret) .nop) (.seq (.sets [(7, (.cvt .i64 (.cvt .i32 (.cvt .u32 (.cvt .u64 (.s 0)))))), (8, (.bin .and (.s 1) (.k (.int .i64 7))))] []) (.seq (.sets [(24, (.bld [(.bool false), (.int .i64 0)] [(1, 1)] (.cs (.k (.int .i64 0)) .nl)))] []) (.seq (.act (some 25) (.bslice 55 2 [(.bool false), (.int .i64 0)] 1 [(0, (.tmp 24))])) (.seq (.sets [(26, (.bld [(.bool false), (.int .i64 0)] [(1, 1)] (.cs (.k (.int .i64 1)) .nl)))] []) (.seq (.act (some 27) (.bslice 55 2 [(.bool false), (.int .i64 0)] 1 [(0, (.tmp 26))])) (.seq (.sets [(28, (.bld [(.int .i64 0), (.int .i64 0), (.slice none 0 0), (.slice none 0 0)] [(1, 1), (2, 1), (3, 1)] (.cs (.k (.int .i64 1)) (.cs (.s 25) (.cs (.s 27) .nl)))))] []) (.seq (.act (some 29) (.bslice 58 4 [(.int .i64 0), (.int .i64 0), (.slice none 0 0), (.slice none 0 0)] 1 [(0, (.tmp 28))])) (.seq (.sets [(30, (.bld [(.slice none 0 0)] [(0, 1)] (.cs (.s 29) .nl))), (31, (.bld [(.bool false), (.int .i64 0)] [(1, 1)] (.cs (.k (.int .i64 0)) .nl)))] []) (.seq (.act (some 32) (.bslice 55 2 [(.bool false), (.int .i64 0)] 1 [(0, (.tmp 31))])) (.seq (.sets [(33, (.bld [(.bool false), (.int .i64 0)] [(1, 1)] (.cs (.k (.int .i64 1)) .nl)))] []) (.seq (.act (some 34) (.bslice 55 2 [(.bool false), (.int .i64 0)] 1 [(0, (.tmp 33))])) (.seq (.sets [(35, (.bld [(.int .i64 0), (.int .i64 0), (.slice none 0 0), (.slice none 0 0)] [(1, 1), (2, 1), (3, 1)] (.cs (.k (.int .i64 1)) (.cs (.s 32) (.cs (.s 34) .nl)))))] []) (.seq (.act (some 36) (.bslice 58 4 [(.int .i64 0), (.int .i64 0), (.slice none 0 0), (.slice none 0 0)] 1 [(0, (.tmp 35))])) (.seq (.sets [(37, (.bld [(.slice none 0 0)] [(0, 1)] (.cs (.s 36) .nl)))] []) (.seq (.act (some 38) (.bslice 61 1 [(.slice none 0 0), (.slice none 0 0)] 2 [(0, (.tmp 30)), (1, (.tmp 37))])) (.seq (.sets [(9, (.s 38))] []) (.seq (.sets [(41, (.bld [(.int .i64 0), (.int .i64 0), (.int .i64 0), (.int .i64 0), (.int .i64 0), (.slice none 0 0), (.int .i64 0), (.int .i64 0), (.int .i64 0)] [(0, 1), (2, 1), (4, 1)] (.cs (.k (.int .i64 9)) (.cs (.k (.int .i64 0)) (.cs (.s 7) .nl))))), (42, (.bld [(.int .i64 0), (.int .i64 0), (.int .i64 0), (.int .i64 0), (.int .i64 0), (.slice none 0 0), (.int .i64 0), (.int .i64 0), (.int .i64 0)] [] .nl)), (44, (.bld [(.int .i64 0), (.int .i64 0), (.int .i64 0), (.int .i64 0), (.int .i64 0), (.slice none 0 0), (.int .i64 0), (.int .i64 0), (.int .i64 0)] [(0, 1), (2, 1), (4, 1), (7, 1)] (.cs (.k (.int .i64 9)) (.cs (.k (.int .i64 0)) (.cs (.s 7) (.cs (.k (.int .i64 1)) .nl)))))), (45, (.bld [(.int .i64 0), (.int .i64 0), (.int .i64 0), (.int .i64 0), (.int .i64 0), (.slice none 0 0), (.int .i64 0), (.int .i64 0), (.int .i64 0)] [(0, 1), (1, 1), (2, 1)] (.cs (.k (.int .i64 2)) (.cs (.k (.int .i64 1)) (.cs (.k (.int .i64 0)) .nl))))), (52, (.bld [(.int .i64 0), (.int .i64 0), (.int .i64 0), (.int .i64 0), (.int .i64 0), (.slice none 0 0), (.int .i64 0), (.int .i64 0), (.int .i64 0)] [(0, 1), (2, 1), (4, 1), (3, 1), (7, 1)] (.cs (.k (.int .i64 9)) (.cs (.k (.int .i64 0)) (.cs (.bin .sub (.bin .add (.s 7) (.k (.int .i64 1))) (.bin .mul (.k (.int .i64 2)) (.bin .and (.s 7) (.k (.int .i64 1))))) (.cs (.k (.int .i64 1)) (.cs (.k (.int .i64 1)) .nl))))))), (53, (.bld [(.int .i64 0), (.int .i64 0), (.int .i64 0), (.int .i64 0), (.int .i64 0), (.slice none 0 0), (.int .i64 0), (.int .i64 0), (.int .i64 0)] [(0, 1), (2, 1)] (.cs (.k (.int .i64 8)) (.cs (.k (.int .i64 1)) .nl))))] []) (.seq (.act (some 54) (.bslice 37 9 [(.int .i64 0), (.int .i64 0), (.int .i64 0), (.int .i64 0), (.int .i64 0), (.slice none 0 0), (.int .i64 0), (.int .i64 0), (.int .i64 0), (.int .i64 0), (.int .i64 0), (.int .i64 0), (.int .i64 0), (.int .i64 0), (.slice none 0 0), (.int .i64 0), (.int .i64 0), (.int .i64 0), (.int .i64 0), (.int .i64 0), (.int .i64 0), (.int .i64 0), (.int .i64 0), (.slice none 0 0), (.int .i64 0), (.int .i64 0), (.int .i64 0), (.int .i64 0), (.int .i64 0), (.int .i64 0), (.int .i64 0), (.int .i64 0), (.slice none 0 0), (.int .i64 0), (.int .i64 0), (.int .i64 0), (.int .i64 0), (.int .i64 0), (.int .i64 0), (.int .i64 0), (.int .i64 0), (.slice none 0 0), (.int .i64 0), (.int .i64 0), (.int .i64 0), (.int .i64 0), (.int .i64 0), (.int .i64 0), (.int .i64 0), (.int .i64 0), (.slice none 0 0), (.int .i64 0), (.int .i64 0), (.int .i64 0)] 6 [(0, (.tmp 41)), (1, (.tmp 42)), (2, (.tmp 44)), (3, (.tmp 45)), (4, (.tmp 52)), (5, (.tmp 53))])) (.seq (.act (some 55) (.call 15 [(.tmp 54)])) (.seq (.sets [(56, (.ext 0 (.s 55))), (57, (.ext 1 (.s 55)))] []) (.seq (.act (some 10) (.alloc 24 (.agg #[(.slice none 0 0)]))) (.seq (.act (some 11) (.alloc 28 (.agg #[(.int .i64 0), (.int .i64 0), (.slice none 0 0), (.slice none 0 0)]))) (.seq (.act none (.store 1 (.tmp 10) (.tmp 56))) (.seq (.act none (.store 4 (.tmp 11) (.tmp 57))) (.seq (.sets [(58, (.s 2))] []) (.seq (.ite (.s 58) (.seq (.sets [(61, (.bld [(.int .i64 0), (.int .i64 0), (.int .i64 0), (.int .i64 0), (.int .i64 0), (.slice none 0 0), (.int .i64 0), (.int .i64 0), (.int .i64 0)] [(0, 1), (2, 1), (4, 1), (6, 1)] (.cs (.k (.int .i64 5)) (.cs (.k (.int .i64 2)) (.cs (.k (.int .i64 2)) (.cs (.k (.int .i64 1)) .nl)))))), (62, (.ix 9 (.ld (.fa 2 (.s 11))) (.k (.int .i64 1))))] []) (.seq (.act none (.store 9 (.tmp 62) (.tmp 61))) (.sets [] []))) .nop) (.seq (.sets [(63, (.s 9)), (64, (.fa 3 (.s 11)))] []) (.seq (.act none (.store 1 (.tmp 64) (.tmp 63))) (.seq (.sets [(66, (.ldn 1 (.s 10))), (67, (.ldn 4 (.s 11)))] []) (.seq (.act (some 68) (.call 16 [(.tmp 66), (.tmp 67)])) (.seq (.sets [(69, (.ext 0 (.s 68))), (70, (.ext 1 (.s 68)))] []) (.seq (.act (some 12) (.var 28 4 (.tmp 69))) (.seq (.sets [(13, (.s 70))] []) (.seq (.sets [(71, (.s 13))] []) (.seq (.act (some 72) (.call 9 [(.tmp 71)])) (.seq (.sets [(89, (.or (.or (.or (.bin .neq (.s 72) (.k (.int .i64 0))) (.bin .neq (.len (.ld (.fa 2 (.s 12)))) (.k (.int .i64 6)))) (.bin .neq (.len (.ld (.fa 3 (.s 12)))) (.k (.int .i64 2)))) (.bin .lss (.s 8) (.k (.int .i64 0)))))] []) (.seq (.ite (.s 89) (.seq (.sets [(6, (.k (.bool false)))] []) .ret) .nop) (.seq (.sets [(91, (.bld [(.bool false), (.int .i64 0)] [(0, 1), (1, 1)] (.cs (.k (.bool true)) (.cs (.s 7) .nl))))] []) (.seq (.act (some 14) (.var 55 2 (.tmp 91))) (.seq (.sp [.rd 92 (.fa 2 (.s 12)), .rd 93 (.ld (.s 92)), .rd 94 (.ix 9 (.s 93) (.k (.int .i64 0))), .rd 95 (.ldn 9 (.s 94)), .rd 96 (.fa 2 (.s 11)), .rd 97 (.ld (.s 96)), .rd 98 (.ix 9 (.s 97) (.k (.int .i64 0))), .rd 99 (.ldn 9 (.s 98)), .ck 93 (.ld (.s 92)), .ck 95 (.ldn 9 (.s 94)), .ck 97 (.ld (.s 96)), .ck 99 (.ldn 9 (.s 98)), .hd (some 100) (.call 11 [(.tmp 95), (.tmp 99)]), .rd 101 (.un .not (.s 100)), .rd 102 (.s 101), .rd 103 (.grd (.s 102) false (.fa 3 (.s 12))), .rd 104 (.grd (.s 102) false (.ld (.s 103))), .rd 105 (.grd (.s 102) false (.ix 1 (.s 104) (.k (.int .i64 0)))), .rd 106 (.grd (.s 102) false (.fa 0 (.s 105))), .rd 107 (.grd (.s 102) false (.ld (.s 106))), .rd 108 (.grd (.s 102) false (.ix 4 (.s 107) (.k (.int .i64 0)))), .rd 109 (.grd (.s 102) false (.fa 2 (.s 108))), .rd 110 (.grd (.s 102) false (.ld (.s 109))), .rd 111 (.grd (.s 102) false (.bld [(.bool false), (.int .i64 0)] [(1, 1)] (.cs (.k (.int .i64 0)) .nl))), .ck 104 (.grd (.s 102) false (.ld (.s 103))), .ck 107 (.grd (.s 102) false (.ld (.s 106))), .ck 110 (.grd (.s 102) false (.ld (.s 109))), .ck 111 (.grd (.s 102) false (.bld [(.bool false), (.int .i64 0)] [(1, 1)] (.cs (.k (.int .i64 0)) .nl))), .hg (some 112) 102 false (.bslice 55 2 [(.bool false), (.int .i64 0)] 1 [(0, (.tmp 111))]), .ck 104 (.grd (.s 102) false (.ld (.s 103))), .ck 107 (.grd (.s 102) false (.ld (.s 106))), .ck 110 (.grd (.s 102) false (.ld (.s 109))), .hg (some 113) 102 false (.call 17 [(.tmp 110), (.tmp 112)]), .rd 114 (.grd (.s 102) false (.un .not (.s 113))), .rd 115 (.pick (.s 102) (.k (.bool true)) (.s 114))]) (.seq (.ite (.s 115) (.seq (.sets [(6, (.k (.bool false)))] []) .ret) .nop) (.seq (.sets [(116, (.s 2))] []) (.seq (.ite (.s 116) (.seq (.sp [.rd 117 (.fa 2 (.s 12)), .rd 118 (.ld (.s 117)), .rd 119 (.ix 9 (.s 118) (.k (.int .i64 2))), .rd 120 (.ldn 9 (.s 119)), .rd 121 (.fa 2 (.s 11)), .rd 122 (.ld (.s 121)), .rd 123 (.ix 9 (.s 122) (.k (.int .i64 2))), .rd 124 (.ldn 9 (.s 123)), .ck 118 (.ld (.s 117)), .ck 120 (.ldn 9 (.s 119)), .ck 122 (.ld (.s 121)), .ck 124 (.ldn 9 (.s 123)), .hd (some 125) (.call 11 [(.tmp 120), (.tmp 124)]), .rd 126 (.s 125), .rd 127 (.grd (.s 126) true (.fa 2 (.s 12))), .rd 128 (.grd (.s 126) true (.ld (.s 127))), .rd 129 (.grd (.s 126) true (.ix 9 (.s 128) (.k (.int .i64 3)))), .rd 130 (.grd (.s 126) true (.ldn 9 (.s 129))), .rd 131 (.grd (.s 126) true (.s 7)), .rd 132 (.grd (.s 126) true (.bld [(.int .i64 0), (.int .i64 0), (.int .i64 0), (.int .i64 0), (.int .i64 0), (.slice none 0 0), (.int .i64 0), (.int .i64 0), (.int .i64 0)] [(0, 1), (1, 1), (4, 1)] (.cs (.k (.int .i64 1)) (.cs (.k (.int .i64 1)) (.cs (.s 131) .nl))))), .ck 128 (.grd (.s 126) true (.ld (.s 127))), .ck 130 (.grd (.s 126) true (.ldn 9 (.s 129))), .ck 132 (.grd (.s 126) true (.bld [(.int .i64 0), (.int .i64 0), (.int .i64 0), (.int .i64 0), (.int .i64 0), (.slice none 0 0), (.int .i64 0), (.int .i64 0), (.int .i64 0)] [(0, 1), (1, 1), (4, 1)] (.cs (.k (.int .i64 1)) (.cs (.k (.int .i64 1)) (.cs (.s 131) .nl))))), .hg (some 133) 126 true (.call 11 [(.tmp 130), (.tmp 132)]), .rd 134 (.pick (.s 126) (.s 133) (.k (.bool false))), .rd 135 (.s 134), .rd 136 (.grd (.s 135) true (.fa 2 (.s 12))), .rd 137 (.grd (.s 135) true (.ld (.s 136))), .rd 138 (.grd (.s 135) true (.ix 9 (.s 137) (.k (.int .i64 4)))), .rd 139 (.grd (.s 135) true (.fa 0 (.s 138))), .rd 140 (.grd (.s 135) true (.ld (.s 139))), .rd 141 (.grd (.s 135) true (.bin .eql (.s 140) (.k (.int .i64 0)))), .rd 142 (.pick (.s 135) (.s 141) (.k (.bool false))), .rd 6 (.s 142), .ck 137 (.grd (.s 135) true (.ld (.s 136))), .ck 140 (.grd (.s 135) true (.ld (.s 139)))]) .ret) .nop) (.seq (.sp [.rd 143 (.fa 2 (.s 12)), .rd 144 (.ld (.s 143)), .rd 145 (.ix 9 (.s 144) (.k (.int .i64 2))), .rd 146 (.fa 0 (.s 145)), .rd 147 (.ld (.s 146)), .rd 148 (.bin .eql (.s 147) (.k (.int .i64 0))), .rd 149 (.s 148), .rd 150 (.grd (.s 149) true (.fa 2 (.s 12))), .rd 151 (.grd (.s 149) true (.ld (.s 150))), .rd 152 (.grd (.s 149) true (.ix 9 (.s 151) (.k (.int .i64 3)))), .rd 153 (.grd (.s 149) true (.ldn 9 (.s 152))), .rd 154 (.grd (.s 149) true (.s 7)), .rd 155 (.grd (.s 149) true (.bld [(.int .i64 0), (.int .i64 0), (.int .i64 0), (.int .i64 0), (.int .i64 0), (.slice none 0 0), (.int .i64 0), (.int .i64 0), (.int .i64 0)] [(0, 1), (1, 1), (4, 1)] (.cs (.k (.int .i64 1)) (.cs (.k (.int .i64 1)) (.cs (.s 154) .nl))))), .ck 144 (.ld (.s 143)), .ck 147 (.ld (.s 146)), .ck 151 (.grd (.s 149) true (.ld (.s 150))), .ck 153 (.grd (.s 149) true (.ldn 9 (.s 152))), .ck 155 (.grd (.s 149) true (.bld [(.int .i64 0), (.int .i64 0), (.int .i64 0), (.int .i64 0), (.int .i64 0), (.slice none 0 0), (.int .i64 0), (.int .i64 0), (.int .i64 0)] [(0, 1), (1, 1), (4, 1)] (.cs (.k (.int .i64 1)) (.cs (.k (.int .i64 1)) (.cs (.s 154) .nl))))), .hg (some 156) 149 true (.call 11 [(.tmp 153), (.tmp 155)]), .rd 157 (.pick (.s 149) (.s 156) (.k (.bool false))), .rd 158 (.s 157), .rd 159 (.grd (.s 158) true (.fa 2 (.s 12))), .rd 160 (.grd (.s 158) true (.ld (.s 159))), .rd 161 (.grd (.s 158) true (.ix 9 (.s 160) (.k (.int .i64 4)))), .rd 162 (.grd (.s 158) true (.fa 0 (.s 161))), .rd 163 (.grd (.s 158) true (.ld (.s 162))), .rd 164 (.grd (.s 158) true (.bin .eql (.s 163) (.k (.int .i64 0)))), .rd 165 (.pick (.s 158) (.s 164) (.k (.bool false))), .rd 166 (.s 165), .rd 167 (.grd (.s 166) true (.fa 3 (.s 12))), .rd 168 (.grd (.s 166) true (.ld (.s 167))), .rd 169 (.grd (.s 166) true (.ix 1 (.s 168) (.k (.int .i64 1)))), .rd 170 (.grd (.s 166) true (.fa 0 (.s 169))), .rd 171 (.grd (.s 166) true (.ld (.s 170))), .rd 172 (.grd (.s 166) true (.ix 4 (.s 171) (.k (.int .i64 0)))), .rd 173 (.grd (.s 166) true (.fa 2 (.s 172))), .rd 174 (.grd (.s 166) true (.ld (.s 173))), .rd 175 (.grd (.s 166) true (.ldn 2 (.s 14))), .ck 160 (.grd (.s 158) true (.ld (.s 159))), .ck 163 (.grd (.s 158) true (.ld (.s 162))), .ck 168 (.grd (.s 166) true (.ld (.s 167))), .ck 171 (.grd (.s 166) true (.ld (.s 170))), .ck 174 (.grd (.s 166) true (.ld (.s 173))), .ck 175 (.grd (.s 166) true (.ldn 2 (.s 14))), .hg (some 176) 166 true (.bslice 55 2 [(.bool false), (.int .i64 0)] 1 [(0, (.tmp 175))]), .ck 168 (.grd (.s 166) true (.ld (.s 167))), .ck 171 (.grd (.s 166) true (.ld (.s 170))), .ck 174 (.grd (.s 166) true (.ld (.s 173))), .hg (some 177) 166 true (.call 17 [(.tmp 174), (.tmp 176)]), .rd 178 (.pick (.s 166) (.s 177) (.k (.bool false))), .rd 6 (.s 178)]) .ret)))))))))))))))))))))))))))))))))))))))))))))))), (.s 6), 179, [0, 1, 2, 6, 7, 8, 9, 10, 11, 12, 13, 14, 16, 58, 89, 115, 116], [54], []⟩
theorem x6 : fiOf Tryd.prog 6 [0, 1, 2, 6, 7, 8, 9, 10, 11, 12, 13, 14, 16, 58, 89, 115, 116] [54] = some X6 := by kernel_rfl

-- swage/swagelaw16.awake
noncomputable def X7 : Fi := ⟨(.seq (.sets [(0, (.k (.bool false)))] []) (.seq (.sets [(7, (.bld [(.int .i64 0), (.int .i64 0)] [(1, 1)] (.cs (.k (.int .i64 1)) .nl))), (8, (.bld [(.int .i64 0), (.int .i64 0)] [(0, 1)] (.cs (.k (.int .i64 16)) .nl)))] []) (.seq (.act (some 9) (.bslice 40 2 [(.int .i64 0), (.int .i64 0), (.int .i64 0), (.int .i64 0)] 2 [(0, (.tmp 7)), (1, (.tmp 8))])) (.seq (.sets [(10, (.bld [(.int .i64 0), (.int .i64 0), (.slice none 0 0)] [(1, 1), (2, 1)] (.cs (.k (.int .i64 1)) (.cs (.s 9) .nl))))] []) (.seq (.act (some 11) (.bslice 43 3 [(.int .i64 0), (.int .i64 0), (.slice none 0 0)] 1 [(0, (.tmp 10))])) (.seq (.sets [(12, (.bld [(.slice none 0 0)] [(0, 1)] (.cs (.s 11) .nl)))] []) (.seq (.act (some 1) (.var 24 1 (.tmp 12))) (.seq (.sets [(13, (.bld [(.int .i64 0), (.int .i64 0), (.int .i64 0), (.int .i64 0), (.int .i64 0), (.slice none 0 0), (.int .i64 0), (.int .i64 0), (.int .i64 0)] [(0, 1), (1, 1), (2, 1), (6, 1)] (.cs (.k (.int .i64 2)) (.cs (.k (.int .i64 1)) (.cs (.k (.int .i64 0)) (.cs (.k (.int .i64 1)) .nl)))))), (14, (.bld [(.int .i64 0), (.int .i64 0), (.int .i64 0), (.int .i64 0), (.int .i64 0), (.slice none 0 0), (.int .i64 0), (.int .i64 0), (.int .i64 0)] [(0, 1), (1, 1), (2, 1), (6, 1)] (.cs (.k (.int .i64 2)) (.cs (.k (.int .i64 2)) (.cs (.k (.int .i64 1)) (.cs (.k (.int .i64 1)) .nl)))))), (15, (.bld [(.int .i64 0), (.int .i64 0), (.int .i64 0), (.int .i64 0), (.int .i64 0), (.slice none 0 0), (.int .i64 0), (.int .i64 0), (.int .i64 0)] [(0, 1), (1, 1), (2, 1), (6, 1)] (.cs (.k (.int .i64 2)) (.cs (.k (.int .i64 0)) (.cs (.k (.int .i64 2)) (.cs (.k (.int .i64 1)) .nl)))))), (16, (.bld [(.int .i64 0), (.int .i64 0), (.int .i64 0), (.int .i64 0), (.int .i64 0), (.slice none 0 0), (.int .i64 0), (.int .i64 0), (.int .i64 0)] [(0, 1), (1, 1), (4, 1), (6, 1)] (.cs (.k (.int .i64 1)) (.cs (.k (.int .i64 0)) (.cs (.k (.int .i64 5)) (.cs (.k (.int .i64 1)) .nl)))))), (17, (.bld [(.int .i64 0), (.int .i64 0), (.int .i64 0), (.int .i64 0), (.int .i64 0), (.slice none 0 0), (.int .i64 0), (.int .i64 0), (.int .i64 0)] [(0, 1), (2, 1), (6, 1)] (.cs (.k (.int .i64 8)) (.cs (.k (.int .i64 2)) (.cs (.k (.int .i64 1)) .nl)))))] []) (.seq (.act (some 18) (.bslice 37 9 [(.int .i64 0), (.int .i64 0), (.int .i64 0), (.int .i64 0), (.int .i64 0), (.slice none 0 0), (.int .i64 0), (.int .i64 0), (.int .i64 0), (.int .i64 0), (.int .i64 0), (.int .i64 0), (.int .i64 0), (.int .i64 0), (.slice none 0 0), (.int .i64 0), (.int .i64 0), (.int .i64 0), (.int .i64 0), (.int .i64 0), (.int .i64 0), (.int .i64 0), (.int .i64 0), (.slice none 0 0), (.int .i64 0), (.int .i64 0), (.int .i64 0), (.int .i64 0), (.int .i64 0), (.int .i64 0), (.int .i64 0), (.int .i64 0), (.slice none 0 0), (.int .i64 0), (.int .i64 0), (.int .i64 0), (.int .i64 0), (.int .i64 0), (.int .i64 0), (.int .i64 0), (.int .i64 0), (.slice none 0 0), (.int .i64 0), (.int .i64 0), (.int .i64 0)] 5 [(0, (.tmp 13)), (1, (.tmp 14)), (2, (.tmp 15)), (3, (.tmp 16)), (4, (.tmp 17))])) (.seq (.sets [(19, (.bld [(.int .i64 0), (.int .i64 0), (.slice none 0 0), (.slice none 0 0)] [(1, 1), (2, 1)] (.cs (.k (.int .i64 4)) (.cs (.s 18) .nl))))] []) (.seq (.act (some 2) (.var 28 4 (.tmp 19))) (.seq (.sets [(21, (.ldn 1 (.s 1))), (22, (.ldn 4 (.s 2)))] []) (.seq (.act (some 23) (.call 8 [(.tmp 21), (.tmp 22)])) (.seq (.sets [(24, (.ext 0 (.s 23))), (25, (.ext 1 (.s 23)))] []) (.seq (.act (some 3) (.var 28 4 (.tmp 24))) (.seq (.sets [(4, (.s 25))] []) (.seq (.sets [(27, (.ldn 1 (.s 1))), (28, (.bld [(.int .i64 0), (.int .i64 0), (.slice none 0 0), (.slice none 0 0)] [] .nl))] []) (.seq (.act (some 29) (.call 8 [(.tmp 27), (.tmp 28)])) (.seq (.sets [(30, (.ext 0 (.s 29))), (31, (.ext 1 (.s 29)))] []) (.seq (.act (some 5) (.var 28 4 (.tmp 30))) (.seq (.sets [(6, (.s 31))] []) (.seq (.sets [(35, (.bin .neq (.len (.ld (.fa 2 (.s 3)))) (.k (.int .i64 5))))] []) (.seq (.ite (.s 35) (.seq (.sets [(0, (.k (.bool false)))] []) .ret) .nop) (.seq (.sets [(36, (.s 4))] []) (.seq (.act (some 37) (.call 9 [(.tmp 36)])) (.seq (.sets [(39, (.bin .eql (.s 37) (.k (.int .i64 0)))), (40, (.grd (.bin .eql (.s 37) (.k (.int .i64 0))) true (.s 6)))] []) (.seq (.ite (.s 39) (.act (some 41) (.call 9 [(.tmp 40)])) (.sets [(41, (.k (.tuple #[])))] [])) (.seq (.sets [(44, (.and (.s 39) (.bin .eql (.s 41) (.k (.int .i64 1600))))), (48, (.grd (.and (.s 39) (.bin .eql (.s 41) (.k (.int .i64 1600)))) true (.ldn 9 (.ix 9 (.ld (.fa 2 (.s 3))) (.k (.int .i64 1)))))), (49, (.grd (.and (.s 39) (.bin .eql (.s 41) (.k (.int .i64 1600)))) true (.bld [(.int .i64 0), (.int .i64 0), (.int .i64 0), (.int .i64 0), (.int .i64 0), (.slice none 0 0), (.int .i64 0), (.int .i64 0), (.int .i64 0)] [(0, 1), (1, 1), (6, 1)] (.cs (.k (.int .i64 2)) (.cs (.k (.int .i64 2)) (.cs (.k (.int .i64 1)) .nl))))))] []) (.seq (.ite (.s 44) (.act (some 50) (.call 11 [(.tmp 48), (.tmp 49)])) (.sets [(50, (.k (.tuple #[])))] [])) (.seq (.sets [(52, (.pick (.s 44) (.s 50) (.k (.bool false)))), (56, (.grd (.pick (.s 44) (.s 50) (.k (.bool false))) true (.ldn 9 (.ix 9 (.ld (.fa 2 (.s 3))) (.k (.int .i64 2)))))), (57, (.grd (.pick (.s 44) (.s 50) (.k (.bool false))) true (.bld [(.int .i64 0), (.int .i64 0), (.int .i64 0), (.int .i64 0), (.int .i64 0), (.slice none 0 0), (.int .i64 0), (.int .i64 0), (.int .i64 0)] [(6, 1)] (.cs (.k (.int .i64 1)) .nl))))] []) (.seq (.ite (.s 52) (.act (some 58) (.call 11 [(.tmp 56), (.tmp 57)])) (.sets [(58, (.k (.tuple #[])))] [])) (.seq (.sets [(60, (.pick (.s 52) (.s 58) (.k (.bool false)))), (64, (.grd (.pick (.s 52) (.s 58) (.k (.bool false))) true (.ldn 9 (.ix 9 (.ld (.fa 2 (.s 3))) (.k (.int .i64 4)))))), (65, (.grd (.pick (.s 52) (.s 58) (.k (.bool false))) true (.bld [(.int .i64 0), (.int .i64 0), (.int .i64 0), (.int .i64 0), (.int .i64 0), (.slice none 0 0), (.int .i64 0), (.int .i64 0), (.int .i64 0)] [(0, 1), (2, 1), (6, 1)] (.cs (.k (.int .i64 8)) (.cs (.k (.int .i64 2)) (.cs (.k (.int .i64 1)) .nl))))))] []) (.seq (.ite (.s 60) (.act (some 66) (.call 11 [(.tmp 64), (.tmp 65)])) (.sets [(66, (.k (.tuple #[])))] [])) (.seq (.sets [(0, (.pick (.s 60) (.s 66) (.k (.bool false))))] []) .ret)))))))))))))))))))))))))))))))))), (.s 0), 68, [0, 1, 2, 3, 4, 6, 35], [], []⟩
theorem x7 : fiOf Tryd.prog 7 [0, 1, 2, 3, 4, 6, 35] [] = some X7 := by kernel_rfl

-- swage/copies.Copies
noncomputable def X8 : Fi := ⟨(.seq (.act (some 2) (.box 24 (.tmp 0))) (.seq (.act (some 3) (.box 28 (.tmp 1))) (.seq (.act (some 4) (.alloc 28 (.agg #[(.int .i64 0), (.int .i64 0), (.slice none 0 0), (.slice none 0 0)]))) (.seq (.sets [(5, (.k (.int .i64 0)))] []) (.seq (.sets [(13, (.ldn 1 (.s 2))), (14, (.ldn 4 (.s 3)))] []) (.seq (.act (some 15) (.call 10 [(.tmp 13), (.tmp 14)])) (.seq (.sets [(16, (.un .not (.s 15)))] []) (.seq (.ite (.s 16) (.seq (.sets [(17, (.bld [(.int .i64 0), (.int .i64 0), (.slice none 0 0), (.slice none 0 0)] [] .nl))] []) (.seq (.act none (.store 4 (.tmp 4) (.tmp 17))) (.seq (.sets [(5, (.k (.int .i64 1600)))] []) .ret))) .nop) (.seq (.act (some 18) (.call 18 [(.tmp 3)])) (.seq (.act (some 6) (.var 28 4 (.tmp 18))) (.seq (.sets [(19, (.ldn 4 (.s 3)))] []) (.seq (.act (some 20) (.call 19 [(.tmp 19)])) (.seq (.sets [(7, (.s 20))] []) (.seq (.sets [(8, (.k (.map none)))] []) (.seq (.sets [(23, (.len (.ld (.fa 2 (.s 6))))), (24, (.k (.int .i64 0)))] []) (.seq (.block 0 (.loop (.seq (.sets [(25, (.bin .lss (.s 24) (.s 23)))] []) (.seq (.ite (.s 25) .nop (.exit 0)) (.seq (.block 1 (.seq (.sets [(9, (.s 24))] []) (.seq (.sets [(30, (.ld (.ix 1 (.s 7) (.s 9))))] []) (.seq (.ite (.s 30) (.seq (.eff ⟨(some 31), (.makeMap 69 none), 69, "", #[], none⟩) (.sets [(8, (.s 31))] [])) .nop) (.seq (.sets [(10, (.ix 9 (.ld (.fa 2 (.s 6))) (.s 9)))] []) (.seq (.sets [(36, (.s 10))] []) (.seq (.act (some 37) (.call 20 [(.tmp 36)])) (.seq (.sets [(38, (.len (.s 37))), (39, (.k (.int .i64 0)))] []) (.seq (.block 2 (.loop (.seq (.sets [(40, (.bin .lss (.s 39) (.s 38)))] []) (.seq (.ite (.s 40) .nop (.exit 2)) (.seq (.block 3 (.seq (.sets [(12, (.ld (.ix 1 (.s 37) (.s 39))))] []) (.seq (.sets [(43, (.s 8)), (44, (.s 12))] []) (.seq (.act (some 45) (.call 21 [(.tmp 43), (.tmp 44)])) (.sets [] []))))) (.sets [(39, (.bin .add (.s 39) (.k (.int .i64 1))))] [])))))) (.seq (.sets [(50, (.ld (.fa 0 (.nck (.s 10)))))] []) (.seq (.act (some 51) (.call 22 [(.tmp 50)])) (.seq (.ite (.s 51) (.sp [.rd 52 (.s 8), .rd 53 (.fa 3 (.s 6)), .rd 54 (.ld (.s 53)), .rd 55 (.s 10), .rd 56 (.nck (.s 55)), .rd 57 (.fa 7 (.s 56)), .rd 58 (.ld (.s 57)), .rd 59 (.ix 1 (.s 54) (.s 58)), .ck 54 (.ld (.s 53)), .ck 58 (.ld (.s 57)), .hd (some 60) (.call 23 [(.tmp 52), (.tmp 59)])]) .nop) (.seq (.sets [(64, (.ld (.fa 0 (.nck (.s 10)))))] []) (.seq (.act (some 65) (.call 24 [(.tmp 64)])) (.seq (.ite (.s 65) (.seq (.sets [(66, (.s 8)), (70, (.ld (.fa 1 (.nck (.s 10)))))] []) (.seq (.act (some 71) (.call 25 [(.tmp 66), (.tmp 70)])) (.sets [] []))) .nop) (.block 4 (.seq (.sets [(81, (.bin .neq (.ld (.fa 0 (.nck (.s 10)))) (.k (.int .i64 2))))] []) (.ite (.s 81) .nop (.seq (.sets [(87, (.bin .eql (.ld (.fa 2 (.nck (.s 10)))) (.ld (.fa 1 (.nck (.s 10))))))] []) (.ite (.s 87) (.sp [.rd 97 (.s 10), .rd 98 (.s 10), .rd 99 (.nck (.s 98)), .rd 100 (.fa 6 (.s 99)), .rd 101 (.ld (.s 100)), .rd 102 (.s 10), .rd 103 (.nck (.s 102)), .rd 104 (.fa 8 (.s 103)), .rd 105 (.ld (.s 104)), .rd 106 (.bld [(.int .i64 0), (.int .i64 0), (.int .i64 0), (.int .i64 0), (.int .i64 0), (.slice none 0 0), (.int .i64 0), (.int .i64 0), (.int .i64 0)] [(0, 1), (6, 1), (8, 1)] (.cs (.k (.int .i64 0)) (.cs (.s 101) (.cs (.s 105) .nl)))), .rd 107 (.nck (.s 97)), .ck 101 (.ld (.s 100)), .ck 105 (.ld (.s 104)), .ck 106 (.bld [(.int .i64 0), (.int .i64 0), (.int .i64 0), (.int .i64 0), (.int .i64 0), (.slice none 0 0), (.int .i64 0), (.int .i64 0), (.int .i64 0)] [(0, 1), (6, 1), (8, 1)] (.cs (.k (.int .i64 0)) (.cs (.s 101) (.cs (.s 105) .nl)))), .hd none (.store 9 (.tmp 107) (.tmp 106))]) (.sp [.rd 72 (.s 8), .rd 73 (.s 10), .rd 74 (.nck (.s 73)), .rd 75 (.fa 1 (.s 74)), .rd 76 (.ld (.s 75)), .rd 77 (.s 10), .rd 78 (.nck (.s 77)), .rd 79 (.fa 2 (.s 78)), .rd 80 (.ld (.s 79)), .ck 76 (.ld (.s 75)), .ck 80 (.ld (.s 79)), .ho ⟨none, (.mapUpdate 69 (.tmp 72) (.tmp 76) (.tmp 80)), 0, "", #[], none⟩]))))))))))))))))))))) (.sets [(24, (.bin .add (.s 24) (.k (.int .i64 1))))] [])))))) (.seq (.sets [(109, (.ldn 4 (.s 6)))] []) (.seq (.act none (.store 4 (.tmp 4) (.tmp 109))) (.seq (.sets [(5, (.k (.int .i64 0)))] []) .ret))))))))))))))))))), (.cs (.ldn 4 (.s 4)) (.cs (.s 5) .nl)), 110, [0, 1, 2, 3, 4, 5, 6, 7, 8, 9, 10, 12, 16, 23, 24, 25, 30, 37, 38, 39, 40, 51, 65, 81, 87], [], []⟩
theorem x8 : fiOf Tryd.prog 8 [0, 1, 2, 3, 4, 5, 6, 7, 8, 9, 10, 12, 16, 23, 24, 25, 30, 37, 38, 39, 40, 51, 65, 81, 87] [] = some X8 := by kernel_rfl

-- swage/swagelaw0.Num
noncomputable def X9 : Fi := ⟨(.seq (.sets [(2, (.k (.int .i64 0)))] []) (.seq (.sets [(2, (.s 0))] []) .ret)), (.s 2), 4, [0, 2], [], []⟩
theorem x9 : fiOf Tryd.prog 9 [0, 2] [] = some X9 := by kernel_rfl

-- swage/ir.May
noncomputable def X10 : Fi := ⟨(.seq (.act (some 2) (.box 24 (.tmp 0))) (.seq (.act (some 3) (.box 28 (.tmp 1))) (.seq (.sets [(4, (.k (.bool false)))] []) (.seq (.act (some 12) (.call 26 [(.tmp 2)])) (.seq (.sets [(5, (.ext 0 (.s 12))), (6, (.ext 1 (.s 12)))] []) (.seq (.sets [(7, (.len (.ld (.fa 2 (.s 3)))))] []) (.seq (.sets [(64, (.or (.or (.or (.or (.or (.or (.or (.bin .neq (.s 6) (.k (.int .i64 0))) (.bin .lss (.ld (.fa 0 (.s 3))) (.k (.int .i64 0)))) (.bin .geq (.ld (.fa 0 (.s 3))) (.len (.ld (.fa 0 (.s 2)))))) (.bin .lss (.ld (.fa 1 (.s 3))) (.pick (.bin .lss (.k (.int .i64 1)) (.grd (.or (.or (.bin .neq (.s 6) (.k (.int .i64 0))) (.bin .lss (.ld (.fa 0 (.s 3))) (.k (.int .i64 0)))) (.bin .geq (.ld (.fa 0 (.s 3))) (.len (.ld (.fa 0 (.s 2)))))) false (.ld (.fa 1 (.ix 3 (.ld (.fa 0 (.s 2))) (.ld (.fa 0 (.s 3)))))))) (.grd (.or (.or (.bin .neq (.s 6) (.k (.int .i64 0))) (.bin .lss (.ld (.fa 0 (.s 3))) (.k (.int .i64 0)))) (.bin .geq (.ld (.fa 0 (.s 3))) (.len (.ld (.fa 0 (.s 2)))))) false (.ld (.fa 1 (.ix 3 (.ld (.fa 0 (.s 2))) (.ld (.fa 0 (.s 3))))))) (.k (.int .i64 1))))) (.bin .gtr (.ld (.fa 1 (.s 3))) (.k (.int .i64 64)))) (.bin .lss (.s 7) (.k (.int .i64 1)))) (.bin .gtr (.s 7) (.k (.int .i64 256)))) (.bin .gtr (.len (.ld (.fa 3 (.s 3)))) (.k (.int .i64 64)))))] []) (.seq (.ite (.s 64) (.seq (.sets [(4, (.k (.bool false)))] []) .ret) .nop) (.seq (.sets [(66, (.bld [(.pointer none), (.pointer none), (.slice none 0 0)] [(0, 1), (1, 1), (2, 1)] (.cs (.s 3) (.cs (.s 2) (.cs (.s 5) .nl)))))] []) (.seq (.act (some 67) (.box 85 (.tmp 66))) (.seq (.sets [(8, (.s 67))] []) (.seq (.sets [(70, (.len (.ld (.fa 2 (.s 3))))), (71, (.k (.int .i64 0)))] []) (.seq (.block 0 (.loop (.seq (.sets [(72, (.bin .lss (.s 71) (.s 70)))] []) (.seq (.ite (.s 72) .nop (.exit 0)) (.seq (.block 1 (.seq (.sets [(9, (.s 71))] []) (.seq (.sets [(74, (.s 8)), (75, (.s 9))] []) (.seq (.act (some 76) (.call 27 [(.tmp 74), (.tmp 75)])) (.seq (.sets [(77, (.un .not (.s 76)))] []) (.ite (.s 77) (.seq (.sets [(4, (.k (.bool false)))] []) .ret) .nop)))))) (.sets [(71, (.bin .add (.s 71) (.k (.int .i64 1))))] [])))))) (.seq (.sets [(10, (.ld (.fa 0 (.ix 9 (.ld (.fa 2 (.s 3))) (.bin .sub (.s 7) (.k (.int .i64 1)))))))] []) (.seq (.sets [(92, (.or (.bin .eql (.s 10) (.k (.int .i64 4))) (.bin .eql (.s 10) (.k (.int .i64 8))))), (94, (.grd (.or (.bin .eql (.s 10) (.k (.int .i64 4))) (.bin .eql (.s 10) (.k (.int .i64 8)))) true (.ld (.fa 3 (.s 3))))), (96, (.grd (.or (.bin .eql (.s 10) (.k (.int .i64 4))) (.bin .eql (.s 10) (.k (.int .i64 8)))) true (.mkf (.func 29) (.cs (.grd (.or (.bin .eql (.s 10) (.k (.int .i64 4))) (.bin .eql (.s 10) (.k (.int .i64 8)))) true (.s 8)) .nl) .nl)))] []) (.seq (.ite (.s 92) (.act (some 97) (.call 28 [(.tmp 94), (.tmp 96)])) (.sets [(97, (.k (.tuple #[])))] [])) (.seq (.sets [(4, (.and (.s 92) (.un .not (.s 97))))] []) .ret))))))))))))))))), (.s 4), 100, [0, 1, 2, 3, 4, 5, 6, 7, 8, 9, 10, 64, 70, 71, 72, 77], [], []⟩
theorem x10 : fiOf Tryd.prog 10 [0, 1, 2, 3, 4, 5, 6, 7, 8, 9, 10, 64, 70, 71, 72, 77] [] = some X10 := by kernel_rfl

-- swage/swagelaw0.SameIr
noncomputable def X11 : Fi := ⟨(.seq (.act (some 2) (.box 37 (.tmp 0))) (.seq (.act (some 3) (.box 37 (.tmp 1))) (.seq (.sets [(4, (.k (.bool false)))] []) (.seq (.sets [(59, (.and (.and (.and (.and (.and (.and (.and (.bin .eql (.ld (.fa 0 (.s 2))) (.ld (.fa 0 (.s 3)))) (.bin .eql (.ld (.fa 1 (.s 2))) (.ld (.fa 1 (.s 3))))) (.bin .eql (.ld (.fa 2 (.s 2))) (.ld (.fa 2 (.s 3))))) (.bin .eql (.ld (.fa 3 (.s 2))) (.ld (.fa 3 (.s 3))))) (.bin .eql (.ld (.fa 4 (.s 2))) (.ld (.fa 4 (.s 3))))) (.bin .eql (.ld (.fa 6 (.s 2))) (.ld (.fa 6 (.s 3))))) (.bin .eql (.ld (.fa 7 (.s 2))) (.ld (.fa 7 (.s 3))))) (.bin .eql (.ld (.fa 8 (.s 2))) (.ld (.fa 8 (.s 3)))))), (61, (.grd (.and (.and (.and (.and (.and (.and (.and (.bin .eql (.ld (.fa 0 (.s 2))) (.ld (.fa 0 (.s 3)))) (.bin .eql (.ld (.fa 1 (.s 2))) (.ld (.fa 1 (.s 3))))) (.bin .eql (.ld (.fa 2 (.s 2))) (.ld (.fa 2 (.s 3))))) (.bin .eql (.ld (.fa 3 (.s 2))) (.ld (.fa 3 (.s 3))))) (.bin .eql (.ld (.fa 4 (.s 2))) (.ld (.fa 4 (.s 3))))) (.bin .eql (.ld (.fa 6 (.s 2))) (.ld (.fa 6 (.s 3))))) (.bin .eql (.ld (.fa 7 (.s 2))) (.ld (.fa 7 (.s 3))))) (.bin .eql (.ld (.fa 8 (.s 2))) (.ld (.fa 8 (.s 3))))) true (.ld (.fa 5 (.s 2))))), (63, (.grd (.and (.and (.and (.and (.and (.and (.and (.bin .eql (.ld (.fa 0 (.s 2))) (.ld (.fa 0 (.s 3)))) (.bin .eql (.ld (.fa 1 (.s 2))) (.ld (.fa 1 (.s 3))))) (.bin .eql (.ld (.fa 2 (.s 2))) (.ld (.fa 2 (.s 3))))) (.bin .eql (.ld (.fa 3 (.s 2))) (.ld (.fa 3 (.s 3))))) (.bin .eql (.ld (.fa 4 (.s 2))) (.ld (.fa 4 (.s 3))))) (.bin .eql (.ld (.fa 6 (.s 2))) (.ld (.fa 6 (.s 3))))) (.bin .eql (.ld (.fa 7 (.s 2))) (.ld (.fa 7 (.s 3))))) (.bin .eql (.ld (.fa 8 (.s 2))) (.ld (.fa 8 (.s 3))))) true (.ld (.fa 5 (.s 3)))))] []) (.seq (.ite (.s 59) (.act (some 64) (.call 30 [(.tmp 61), (.tmp 63)])) (.sets [(64, (.k (.tuple #[])))] [])) (.seq (.sets [(4, (.pick (.s 59) (.s 64) (.k (.bool false))))] []) .ret)))))), (.s 4), 66, [0, 1, 2, 3, 4], [], []⟩
theorem x11 : fiOf Tryd.prog 11 [0, 1, 2, 3, 4] [] = some X11 := by kernel_rfl

-- swage/swagelaw15.awake
noncomputable def X12 : Fi := ⟨(.seq (.sets [(0, (.k (.bool false)))] []) (.seq (.sets [(8, (.bld [(.int .i64 0), (.int .i64 0), (.int .i64 0), (.int .i64 0), (.int .i64 0), (.slice none 0 0), (.int .i64 0), (.int .i64 0), (.int .i64 0)] [(0, 1), (1, 1), (4, 1), (6, 1)] (.cs (.k (.int .i64 1)) (.cs (.k (.int .i64 1)) (.cs (.k (.int .i64 4)) (.cs (.k (.int .i64 1)) .nl)))))), (9, (.bld [(.int .i64 0), (.int .i64 0), (.int .i64 0), (.int .i64 0), (.int .i64 0), (.slice none 0 0), (.int .i64 0), (.int .i64 0), (.int .i64 0)] [(0, 1), (1, 1), (2, 1), (6, 1)] (.cs (.k (.int .i64 2)) (.cs (.k (.int .i64 2)) (.cs (.k (.int .i64 1)) (.cs (.k (.int .i64 1)) .nl)))))), (10, (.bld [(.int .i64 0), (.int .i64 0), (.int .i64 0), (.int .i64 0), (.int .i64 0), (.slice none 0 0), (.int .i64 0), (.int .i64 0), (.int .i64 0)] [(0, 1), (1, 1), (2, 1), (3, 1), (4, 1), (6, 1)] (.cs (.k (.int .i64 3)) (.cs (.k (.int .i64 3)) (.cs (.k (.int .i64 1)) (.cs (.k (.int .i64 2)) (.cs (.k (.int .i64 5)) (.cs (.k (.int .i64 1)) .nl)))))))), (11, (.bld [(.int .i64 0), (.int .i64 0), (.int .i64 0), (.int .i64 0), (.int .i64 0), (.slice none 0 0), (.int .i64 0), (.int .i64 0), (.int .i64 0)] [(0, 1), (2, 1), (4, 1), (6, 1)] (.cs (.k (.int .i64 5)) (.cs (.k (.int .i64 3)) (.cs (.k (.int .i64 5)) (.cs (.k (.int .i64 1)) .nl)))))), (12, (.bld [(.int .i64 0), (.int .i64 0), (.int .i64 0), (.int .i64 0), (.int .i64 0), (.slice none 0 0), (.int .i64 0), (.int .i64 0), (.int .i64 0)] [(0, 1), (2, 1), (6, 1)] (.cs (.k (.int .i64 7)) (.cs (.k (.int .i64 0)) (.cs (.k (.int .i64 1)) .nl))))), (13, (.bld [(.int .i64 0), (.int .i64 0), (.int .i64 0), (.int .i64 0), (.int .i64 0), (.slice none 0 0), (.int .i64 0), (.int .i64 0), (.int .i64 0)] [(0, 1), (2, 1), (6, 1)] (.cs (.k (.int .i64 8)) (.cs (.k (.int .i64 3)) (.cs (.k (.int .i64 1)) .nl)))))] []) (.seq (.act (some 14) (.bslice 37 9 [(.int .i64 0), (.int .i64 0), (.int .i64 0), (.int .i64 0), (.int .i64 0), (.slice none 0 0), (.int .i64 0), (.int .i64 0), (.int .i64 0), (.int .i64 0), (.int .i64 0), (.int .i64 0), (.int .i64 0), (.int .i64 0), (.slice none 0 0), (.int .i64 0), (.int .i64 0), (.int .i64 0), (.int .i64 0), (.int .i64 0), (.int .i64 0), (.int .i64 0), (.int .i64 0), (.slice none 0 0), (.int .i64 0), (.int .i64 0), (.int .i64 0), (.int .i64 0), (.int .i64 0), (.int .i64 0), (.int .i64 0), (.int .i64 0), (.slice none 0 0), (.int .i64 0), (.int .i64 0), (.int .i64 0), (.int .i64 0), (.int .i64 0), (.int .i64 0), (.int .i64 0), (.int .i64 0), (.slice none 0 0), (.int .i64 0), (.int .i64 0), (.int .i64 0), (.int .i64 0), (.int .i64 0), (.int .i64 0), (.int .i64 0), (.int .i64 0), (.slice none 0 0), (.int .i64 0), (.int .i64 0), (.int .i64 0)] 6 [(0, (.tmp 8)), (1, (.tmp 9)), (2, (.tmp 10)), (3, (.tmp 11)), (4, (.tmp 12)), (5, (.tmp 13))])) (.seq (.act (some 15) (.call 15 [(.tmp 14)])) (.seq (.sets [(16, (.ext 0 (.s 15))), (17, (.ext 1 (.s 15)))] []) (.seq (.act (some 1) (.alloc 24 (.agg #[(.slice none 0 0)]))) (.seq (.act (some 2) (.alloc 28 (.agg #[(.int .i64 0), (.int .i64 0), (.slice none 0 0), (.slice none 0 0)]))) (.seq (.act none (.store 1 (.tmp 1) (.tmp 16))) (.seq (.act none (.store 4 (.tmp 2) (.tmp 17))) (.seq (.sets [(19, (.ldn 1 (.s 1))), (20, (.ldn 4 (.s 2)))] []) (.seq (.act (some 21) (.call 16 [(.tmp 19), (.tmp 20)])) (.seq (.sets [(22, (.ext 0 (.s 21))), (23, (.ext 1 (.s 21)))] []) (.seq (.act (some 3) (.var 28 4 (.tmp 22))) (.seq (.sets [(4, (.s 23))] []) (.seq (.sets [(25, (.ldn 1 (.s 1))), (26, (.bld [(.int .i64 0), (.int .i64 0), (.slice none 0 0), (.slice none 0 0)] [] .nl))] []) (.seq (.act (some 27) (.call 16 [(.tmp 25), (.tmp 26)])) (.seq (.sets [(28, (.ext 0 (.s 27))), (29, (.ext 1 (.s 27)))] []) (.seq (.act (some 5) (.var 28 4 (.tmp 28))) (.seq (.sets [(6, (.s 29))] []) (.seq (.sets [(33, (.bin .neq (.len (.ld (.fa 2 (.s 3)))) (.k (.int .i64 6))))] []) (.seq (.ite (.s 33) (.seq (.sets [(0, (.k (.bool false)))] []) .ret) .nop) (.seq (.sp [.rd 34 (.s 4), .hd (some 35) (.call 9 [(.tmp 34)]), .rd 36 (.bin .eql (.s 35) (.k (.int .i64 0))), .rd 37 (.s 36), .rd 38 (.grd (.s 37) true (.s 6)), .hg (some 39) 37 true (.call 9 [(.tmp 38)]), .rd 40 (.grd (.s 37) true (.bin .eql (.s 39) (.k (.int .i64 1500)))), .rd 41 (.pick (.s 37) (.s 40) (.k (.bool false))), .rd 42 (.s 41), .rd 43 (.grd (.s 42) true (.fa 2 (.s 3))), .rd 44 (.grd (.s 42) true (.ld (.s 43))), .rd 45 (.grd (.s 42) true (.ix 9 (.s 44) (.k (.int .i64 1)))), .rd 46 (.grd (.s 42) true (.ldn 9 (.s 45))), .rd 47 (.grd (.s 42) true (.bld [(.int .i64 0), (.int .i64 0), (.int .i64 0), (.int .i64 0), (.int .i64 0), (.slice none 0 0), (.int .i64 0), (.int .i64 0), (.int .i64 0)] [(0, 1), (1, 1), (4, 1), (6, 1)] (.cs (.k (.int .i64 1)) (.cs (.k (.int .i64 2)) (.cs (.k (.int .i64 4)) (.cs (.k (.int .i64 1)) .nl)))))), .ck 44 (.grd (.s 42) true (.ld (.s 43))), .ck 46 (.grd (.s 42) true (.ldn 9 (.s 45))), .ck 47 (.grd (.s 42) true (.bld [(.int .i64 0), (.int .i64 0), (.int .i64 0), (.int .i64 0), (.int .i64 0), (.slice none 0 0), (.int .i64 0), (.int .i64 0), (.int .i64 0)] [(0, 1), (1, 1), (4, 1), (6, 1)] (.cs (.k (.int .i64 1)) (.cs (.k (.int .i64 2)) (.cs (.k (.int .i64 4)) (.cs (.k (.int .i64 1)) .nl)))))), .hg (some 48) 42 true (.call 11 [(.tmp 46), (.tmp 47)]), .rd 49 (.pick (.s 42) (.s 48) (.k (.bool false))), .rd 50 (.s 49), .rd 51 (.grd (.s 50) true (.fa 2 (.s 3))), .rd 52 (.grd (.s 50) true (.ld (.s 51))), .rd 53 (.grd (.s 50) true (.ix 9 (.s 52) (.k (.int .i64 2)))), .rd 54 (.grd (.s 50) true (.ldn 9 (.s 53))), .rd 55 (.grd (.s 50) true (.bld [(.int .i64 0), (.int .i64 0), (.int .i64 0), (.int .i64 0), (.int .i64 0), (.slice none 0 0), (.int .i64 0), (.int .i64 0), (.int .i64 0)] [(0, 1), (1, 1), (4, 1), (6, 1)] (.cs (.k (.int .i64 1)) (.cs (.k (.int .i64 3)) (.cs (.k (.int .i64 16)) (.cs (.k (.int .i64 1)) .nl)))))), .ck 52 (.grd (.s 50) true (.ld (.s 51))), .ck 54 (.grd (.s 50) true (.ldn 9 (.s 53))), .ck 55 (.grd (.s 50) true (.bld [(.int .i64 0), (.int .i64 0), (.int .i64 0), (.int .i64 0), (.int .i64 0), (.slice none 0 0), (.int .i64 0), (.int .i64 0), (.int .i64 0)] [(0, 1), (1, 1), (4, 1), (6, 1)] (.cs (.k (.int .i64 1)) (.cs (.k (.int .i64 3)) (.cs (.k (.int .i64 16)) (.cs (.k (.int .i64 1)) .nl)))))), .hg (some 56) 50 true (.call 11 [(.tmp 54), (.tmp 55)]), .rd 57 (.pick (.s 50) (.s 56) (.k (.bool false))), .rd 58 (.s 57), .rd 59 (.grd (.s 58) true (.fa 2 (.s 3))), .rd 60 (.grd (.s 58) true (.ld (.s 59))), .rd 61 (.grd (.s 58) true (.ix 9 (.s 60) (.k (.int .i64 3)))), .rd 62 (.grd (.s 58) true (.ldn 9 (.s 61))), .rd 63 (.grd (.s 58) true (.bld [(.int .i64 0), (.int .i64 0), (.int .i64 0), (.int .i64 0), (.int .i64 0), (.slice none 0 0), (.int .i64 0), (.int .i64 0), (.int .i64 0)] [(6, 1)] (.cs (.k (.int .i64 1)) .nl))), .ck 60 (.grd (.s 58) true (.ld (.s 59))), .ck 62 (.grd (.s 58) true (.ldn 9 (.s 61))), .ck 63 (.grd (.s 58) true (.bld [(.int .i64 0), (.int .i64 0), (.int .i64 0), (.int .i64 0), (.int .i64 0), (.slice none 0 0), (.int .i64 0), (.int .i64 0), (.int .i64 0)] [(6, 1)] (.cs (.k (.int .i64 1)) .nl))), .hg (some 64) 58 true (.call 11 [(.tmp 62), (.tmp 63)]), .rd 65 (.pick (.s 58) (.s 64) (.k (.bool false))), .rd 66 (.s 65), .rd 67 (.grd (.s 66) true (.fa 2 (.s 3))), .rd 68 (.grd (.s 66) true (.ld (.s 67))), .rd 69 (.grd (.s 66) true (.ix 9 (.s 68) (.k (.int .i64 5)))), .rd 70 (.grd (.s 66) true (.ldn 9 (.s 69))), .rd 71 (.grd (.s 66) true (.fa 2 (.s 2))), .rd 72 (.grd (.s 66) true (.ld (.s 71))), .rd 73 (.grd (.s 66) true (.ix 9 (.s 72) (.k (.int .i64 5)))), .rd 74 (.grd (.s 66) true (.ldn 9 (.s 73))), .ck 68 (.grd (.s 66) true (.ld (.s 67))), .ck 70 (.grd (.s 66) true (.ldn 9 (.s 69))), .ck 72 (.grd (.s 66) true (.ld (.s 71))), .ck 74 (.grd (.s 66) true (.ldn 9 (.s 73))), .hg (some 75) 66 true (.call 11 [(.tmp 70), (.tmp 74)]), .rd 76 (.pick (.s 66) (.s 75) (.k (.bool false))), .rd 0 (.s 76)]) .ret)))))))))))))))))))))), (.s 0), 77, [0, 1, 2, 3, 4, 6, 33], [], []⟩
theorem x12 : fiOf Tryd.prog 12 [0, 1, 2, 3, 4, 6, 33] [] = some X12 := by kernel_rfl

-- swage/swagelaw15.line
noncomputable def X15 : Fi := ⟨(.seq (.act (some 2) (.alloc 24 (.agg #[(.slice none 0 0)]))) (.seq (.act (some 3) (.alloc 28 (.agg #[(.int .i64 0), (.int .i64 0), (.slice none 0 0), (.slice none 0 0)]))) (.seq (.sets [(5, (.bld [(.int .i64 0), (.int .i64 0)] [(1, 1)] (.cs (.k (.int .i64 1)) .nl))), (6, (.bld [(.int .i64 0), (.int .i64 0)] [(0, 1)] (.cs (.k (.int .i64 16)) .nl)))] []) (.seq (.act (some 7) (.bslice 40 2 [(.int .i64 0), (.int .i64 0), (.int .i64 0), (.int .i64 0)] 2 [(0, (.tmp 5)), (1, (.tmp 6))])) (.seq (.sets [(8, (.bld [(.int .i64 0), (.int .i64 0), (.slice none 0 0)] [(1, 1), (2, 1)] (.cs (.k (.int .i64 1)) (.cs (.s 7) .nl))))] []) (.seq (.act (some 9) (.bslice 43 3 [(.int .i64 0), (.int .i64 0), (.slice none 0 0)] 1 [(0, (.tmp 8))])) (.seq (.sets [(10, (.bld [(.slice none 0 0)] [(0, 1)] (.cs (.s 9) .nl)))] []) (.seq (.act (some 4) (.var 24 1 (.tmp 10))) (.seq (.sets [(11, (.ldn 1 (.s 4))), (13, (.bld [(.int .i64 0), (.int .i64 0), (.slice none 0 0), (.slice none 0 0)] [(1, 1), (2, 1)] (.cs (.k (.int .i64 4)) (.cs (.s 0) .nl))))] []) (.seq (.act none (.store 1 (.tmp 2) (.tmp 11))) (.seq (.act none (.store 4 (.tmp 3) (.tmp 13))) .ret))))))))))), (.cs (.ldn 1 (.s 2)) (.cs (.ldn 4 (.s 3)) .nl)), 14, [0, 2, 3, 4], [], []⟩
theorem x15 : fiOf Tryd.prog 15 [0, 2, 3, 4] [] = some X15 := by kernel_rfl

-- swage/fold.Fold
noncomputable def X16 : Fi := ⟨(.seq (.act (some 2) (.box 24 (.tmp 0))) (.seq (.act (some 3) (.box 28 (.tmp 1))) (.seq (.act (some 4) (.alloc 28 (.agg #[(.int .i64 0), (.int .i64 0), (.slice none 0 0), (.slice none 0 0)]))) (.seq (.sets [(5, (.k (.int .i64 0)))] []) (.seq (.sets [(11, (.ldn 1 (.s 2))), (12, (.ldn 4 (.s 3)))] []) (.seq (.act (some 13) (.call 10 [(.tmp 11), (.tmp 12)])) (.seq (.sets [(14, (.un .not (.s 13)))] []) (.seq (.ite (.s 14) (.seq (.sets [(15, (.bld [(.int .i64 0), (.int .i64 0), (.slice none 0 0), (.slice none 0 0)] [] .nl))] []) (.seq (.act none (.store 4 (.tmp 4) (.tmp 15))) (.seq (.sets [(5, (.k (.int .i64 1500)))] []) .ret))) .nop) (.seq (.act (some 16) (.call 18 [(.tmp 3)])) (.seq (.act (some 6) (.var 28 4 (.tmp 16))) (.seq (.sets [(17, (.ldn 4 (.s 3)))] []) (.seq (.act (some 18) (.call 19 [(.tmp 17)])) (.seq (.sets [(7, (.s 18))] []) (.seq (.sets [(8, (.k (.map none)))] []) (.seq (.sets [(21, (.len (.ld (.fa 2 (.s 6))))), (22, (.k (.int .i64 0)))] []) (.seq (.block 0 (.loop (.seq (.sets [(23, (.bin .lss (.s 22) (.s 21)))] []) (.seq (.ite (.s 23) .nop (.exit 0)) (.seq (.block 1 (.seq (.sets [(9, (.s 22))] []) (.seq (.sets [(28, (.ld (.ix 1 (.s 7) (.s 9))))] []) (.seq (.ite (.s 28) (.seq (.eff ⟨(some 29), (.makeMap 89 none), 89, "", #[], none⟩) (.sets [(8, (.s 29))] [])) .nop) (.seq (.sets [(10, (.ix 9 (.ld (.fa 2 (.s 6))) (.s 9)))] []) (.seq (.sets [(37, (.ld (.fa 0 (.nck (.s 10)))))] []) (.seq (.act (some 38) (.call 22 [(.tmp 37)])) (.seq (.ite (.s 38) (.sp [.rd 39 (.s 8), .rd 40 (.fa 3 (.s 6)), .rd 41 (.ld (.s 40)), .rd 42 (.s 10), .rd 43 (.nck (.s 42)), .rd 44 (.fa 7 (.s 43)), .rd 45 (.ld (.s 44)), .rd 46 (.ix 1 (.s 41) (.s 45)), .ck 41 (.ld (.s 40)), .ck 45 (.ld (.s 44)), .hd (some 47) (.call 32 [(.tmp 39), (.tmp 46)])]) .nop) (.seq (.sets [(48, (.s 10)), (49, (.s 8)), (52, (.ldn 9 (.nck (.s 10))))] []) (.seq (.act (some 53) (.call 33 [(.tmp 49), (.tmp 52)])) (.seq (.sets [(54, (.nck (.s 48)))] []) (.seq (.act none (.store 9 (.tmp 54) (.tmp 53))) (.seq (.sets [(55, (.s 8)), (56, (.s 10))] []) (.seq (.act (some 57) (.call 34 [(.tmp 55), (.tmp 56)])) (.sets [] []))))))))))))))) (.sets [(22, (.bin .add (.s 22) (.k (.int .i64 1))))] [])))))) (.seq (.sets [(59, (.ldn 4 (.s 6)))] []) (.seq (.act none (.store 4 (.tmp 4) (.tmp 59))) (.seq (.sets [(5, (.k (.int .i64 0)))] []) .ret))))))))))))))))))), (.cs (.ldn 4 (.s 4)) (.cs (.s 5) .nl)), 60, [0, 1, 2, 3, 4, 5, 6, 7, 8, 9, 10, 14, 21, 22, 23, 28, 38], [], []⟩
theorem x16 : fiOf Tryd.prog 16 [0, 1, 2, 3, 4, 5, 6, 7, 8, 9, 10, 14, 21, 22, 23, 28, 38] [] = some X16 := by kernel_rfl

-- swage/swagelaw0.SameSrcs
noncomputable def X17 : Fi := ⟨(.seq (.sets [(4, (.k (.bool false)))] []) (.seq (.sets [(10, (.bin .neq (.len (.s 0)) (.len (.s 1))))] []) (.seq (.ite (.s 10) (.seq (.sets [(4, (.k (.bool false)))] []) .ret) .nop) (.seq (.sets [(5, (.k (.int .i64 0)))] []) (.seq (.block 0 (.loop (.seq (.sets [(14, (.bin .lss (.s 5) (.len (.s 0))))] []) (.seq (.ite (.s 14) .nop (.exit 0)) (.seq (.block 1 (.seq (.sets [(25, (.eqs true 102 (.ldn 2 (.ix 2 (.s 0) (.s 5))) (.ldn 2 (.ix 2 (.s 1) (.s 5)))))] []) (.ite (.s 25) (.seq (.sets [(4, (.k (.bool false)))] []) .ret) .nop))) (.sets [(5, (.bin .add (.s 5) (.k (.int .i64 1))))] [])))))) (.seq (.sets [(4, (.k (.bool true)))] []) .ret)))))), (.s 4), 26, [0, 1, 4, 5, 10, 14, 25], [], []⟩
theorem x17 : fiOf Tryd.prog 17 [0, 1, 4, 5, 10, 14, 25] [] = some X17 := by kernel_rfl

-- swage/ir.Copy
noncomputable def X18 : Fi := ⟨(.seq (.act (some 2) (.alloc 28 (.agg #[(.int .i64 0), (.int .i64 0), (.slice none 0 0), (.slice none 0 0)]))) (.seq (.sets [(8, (.ldn 4 (.nck (.s 0))))] []) (.seq (.act (some 3) (.var 28 4 (.tmp 8))) (.seq (.sp [.rd 9 (.s 0), .rd 10 (.nck (.s 9)), .rd 11 (.fa 2 (.s 10)), .rd 12 (.ld (.s 11)), .rd 14 (.s 0), .rd 15 (.nck (.s 14)), .rd 16 (.fa 3 (.s 15)), .rd 17 (.ld (.s 16)), .ck 12 (.ld (.s 11)), .ck 17 (.ld (.s 16)), .hd (some 13) (.call 35 [(.tmp 12)]), .rd 19 (.fa 2 (.s 3)), .ck 17 (.ld (.s 16)), .hd (some 18) (.call 36 [(.tmp 17)]), .hd none (.store 1 (.tmp 19) (.tmp 13)), .rd 20 (.fa 3 (.s 3)), .hd none (.store 1 (.tmp 20) (.tmp 18))]) (.seq (.sets [(23, (.len (.ld (.fa 2 (.s 3))))), (24, (.k (.int .i64 0)))] []) (.seq (.block 0 (.loop (.seq (.sets [(25, (.bin .lss (.s 24) (.s 23)))] []) (.seq (.ite (.s 25) .nop (.exit 0)) (.seq (.block 1 (.seq (.sets [(4, (.s 24))] []) (.sp [.rd 27 (.fa 2 (.s 3)), .rd 28 (.ld (.s 27)), .rd 29 (.s 4), .rd 30 (.fa 2 (.s 3)), .rd 31 (.ld (.s 30)), .rd 32 (.s 4), .rd 33 (.ix 9 (.s 31) (.s 32)), .rd 34 (.fa 5 (.s 33)), .rd 35 (.ld (.s 34)), .ck 28 (.ld (.s 27)), .ck 31 (.ld (.s 30)), .ck 35 (.ld (.s 34)), .hd (some 36) (.call 37 [(.tmp 35)]), .rd 37 (.ix 9 (.s 28) (.s 29)), .rd 38 (.fa 5 (.s 37)), .ck 28 (.ld (.s 27)), .hd none (.store 1 (.tmp 38) (.tmp 36))]))) (.sets [(24, (.bin .add (.s 24) (.k (.int .i64 1))))] [])))))) (.seq (.sets [(42, (.len (.ld (.fa 3 (.s 3))))), (43, (.k (.int .i64 0)))] []) (.seq (.block 2 (.loop (.seq (.sets [(44, (.bin .lss (.s 43) (.s 42)))] []) (.seq (.ite (.s 44) .nop (.exit 2)) (.seq (.block 3 (.seq (.sets [(5, (.s 43))] []) (.sp [.rd 46 (.fa 3 (.s 3)), .rd 47 (.ld (.s 46)), .rd 48 (.s 5), .rd 49 (.fa 3 (.s 3)), .rd 50 (.ld (.s 49)), .rd 51 (.s 5), .rd 52 (.ix 1 (.s 50) (.s 51)), .rd 53 (.ldn 1 (.s 52)), .ck 47 (.ld (.s 46)), .ck 50 (.ld (.s 49)), .ck 53 (.ldn 1 (.s 52)), .hd (some 54) (.call 38 [(.tmp 53)]), .rd 55 (.ix 1 (.s 47) (.s 48)), .ck 47 (.ld (.s 46)), .hd none (.store 1 (.tmp 55) (.tmp 54))]))) (.sets [(43, (.bin .add (.s 43) (.k (.int .i64 1))))] [])))))) (.seq (.sets [(57, (.ldn 4 (.s 3)))] []) (.seq (.act none (.store 4 (.tmp 2) (.tmp 57))) .ret)))))))))), (.ldn 4 (.s 2)), 58, [0, 2, 3, 4, 5, 23, 24, 25, 42, 43, 44], [3], []⟩
theorem x18 : fiOf Tryd.prog 18 [0, 2, 3, 4, 5, 23, 24, 25, 42, 43, 44] [3] = some X18 := by kernel_rfl

-- swage/ir.Leaders
noncomputable def X19 : Fi := ⟨(.seq (.act (some 1) (.box 28 (.tmp 0))) (.seq (.sets [(2, (.k (.slice none 0 0)))] []) (.seq (.sets [(3, (.len (.ld (.fa 2 (.s 1)))))] []) (.seq (.sets [(11, (.bin .add (.s 3) (.k (.int .i64 1))))] []) (.seq (.act (some 12) (.make 4 1 1 (.bool false) (.tmp 11) (.tmp 11))) (.seq (.sets [(4, (.s 12))] []) (.seq (.sets [(14, (.ix 1 (.s 4) (.k (.int .i64 0))))] []) (.seq (.act none (.store 1 (.tmp 14) (.const (.bool true)))) (.seq (.sets [(16, (.ld (.fa 2 (.s 1)))), (17, (.len (.ld (.fa 2 (.s 1))))), (18, (.k (.int .i64 0)))] []) (.seq (.block 0 (.loop (.seq (.sets [(19, (.bin .lss (.s 18) (.s 17)))] []) (.seq (.ite (.s 19) .nop (.exit 0)) (.seq (.block 1 (.seq (.sets [(20, (.s 18)), (22, (.ldn 9 (.ix 9 (.s 16) (.s 18))))] []) (.seq (.act (some 6) (.alloc 37 (.agg #[(.int .i64 0), (.int .i64 0), (.int .i64 0), (.int .i64 0), (.int .i64 0), (.slice none 0 0), (.int .i64 0), (.int .i64 0), (.int .i64 0)]))) (.seq (.sets [(5, (.s 20))] []) (.seq (.act none (.store 9 (.tmp 6) (.tmp 22))) (.seq (.sets [(24, (.ld (.fa 0 (.s 6))))] []) (.block 2 (.seq (.block 4 (.seq (.block 3 (.seq (.sets [(25, (.or (.bin .eql (.s 24) (.k (.int .i64 4))) (.bin .eql (.s 24) (.k (.int .i64 5)))))] []) (.seq (.ite (.s 25) (.exit 3) .nop) (.seq (.sets [(28, (.bin .eql (.s 24) (.k (.int .i64 8))))] []) (.seq (.ite (.s 28) (.exit 4) .nop) (.exit 2)))))) (.seq (.sets [(38, (.and (.bin .geq (.ld (.fa 4 (.s 6))) (.k (.int .i64 0))) (.bin .lss (.ld (.fa 4 (.s 6))) (.s 3))))] []) (.ite (.s 38) (.seq (.sets [(42, (.ix 1 (.s 4) (.ld (.fa 4 (.s 6)))))] []) (.seq (.act none (.store 1 (.tmp 42) (.const (.bool true)))) (.sets [] []))) .nop)))) (.seq (.sets [(46, (.ix 1 (.s 4) (.bin .add (.s 5) (.k (.int .i64 1)))))] []) (.seq (.act none (.store 1 (.tmp 46) (.const (.bool true)))) (.exit 2))))))))))) (.sets [(18, (.bin .add (.s 18) (.k (.int .i64 1))))] [])))))) (.seq (.sets [(2, (.slc 1 (.s 4) .nl (.cs (.s 3) .nl) (.cs (.s 3) .nl)))] []) .ret))))))))))), (.s 2), 52, [0, 1, 2, 3, 4, 5, 6, 16, 17, 18, 19, 24, 25, 28, 38], [], []⟩
theorem x19 : fiOf Tryd.prog 19 [0, 1, 2, 3, 4, 5, 6, 16, 17, 18, 19, 24, 25, 28, 38] [] = some X19 := by kernel_rfl

-- swage/ir.Reads
noncomputable def X20 : Fi := ⟨(.seq (.sets [(2, (.k (.slice none 0 0)))] []) (.seq (.sets [(3, (.k (.slice none 0 0)))] []) (.seq (.sets [(8, (.ld (.fa 0 (.nck (.s 0)))))] []) (.seq (.block 0 (.seq (.block 3 (.seq (.block 2 (.seq (.block 1 (.seq (.sets [(9, (.bin .eql (.s 8) (.k (.int .i64 3))))] []) (.seq (.ite (.s 9) (.exit 1) .nop) (.seq (.sets [(11, (.or (.bin .eql (.s 8) (.k (.int .i64 2))) (.or (.bin .eql (.s 8) (.k (.int .i64 5))) (.or (.bin .eql (.s 8) (.k (.int .i64 7))) (.or (.bin .eql (.s 8) (.k (.int .i64 8))) (.bin .eql (.s 8) (.k (.int .i64 9))))))))] []) (.seq (.ite (.s 11) (.exit 2) .nop) (.seq (.sets [(17, (.bin .eql (.s 8) (.k (.int .i64 6))))] []) (.seq (.ite (.s 17) (.exit 3) .nop) (.exit 0)))))))) (.seq (.sets [(19, (.s 3)), (22, (.fa 3 (.nck (.s 0))))] []) (.seq (.act (some 23) (.bslice 73 1 [(.pointer none)] 1 [(0, (.tmp 22))])) (.seq (.act (some 24) (.app 73 1 8 (.tmp 19) (.tmp 23))) (.sets [(3, (.s 24))] [])))))) (.seq (.sets [(25, (.s 3)), (28, (.fa 2 (.nck (.s 0))))] []) (.seq (.act (some 29) (.bslice 73 1 [(.pointer none)] 1 [(0, (.tmp 28))])) (.seq (.act (some 30) (.app 73 1 8 (.tmp 25) (.tmp 29))) (.seq (.sets [(3, (.s 30))] []) (.exit 0))))))) (.seq (.sets [(35, (.len (.ld (.fa 5 (.nck (.s 0)))))), (36, (.k (.int .i64 0)))] []) (.seq (.block 4 (.loop (.seq (.sets [(37, (.bin .lss (.s 36) (.s 35)))] []) (.seq (.ite (.s 37) .nop (.exit 4)) (.seq (.block 5 (.seq (.sets [(4, (.s 36))] []) (.seq (.sets [(39, (.s 3)), (45, (.ix 1 (.ld (.fa 5 (.nck (.s 0)))) (.s 4)))] []) (.seq (.act (some 46) (.bslice 73 1 [(.pointer none)] 1 [(0, (.tmp 45))])) (.seq (.act (some 47) (.app 73 1 8 (.tmp 39) (.tmp 46))) (.sets [(3, (.s 47))] [])))))) (.sets [(36, (.bin .add (.s 36) (.k (.int .i64 1))))] [])))))) (.exit 0))))) (.seq (.sets [(2, (.s 3))] []) .ret))))), (.s 2), 50, [0, 2, 3, 4, 8, 9, 11, 17, 35, 36, 37], [], []⟩
theorem x20 : fiOf Tryd.prog 20 [0, 2, 3, 4, 8, 9, 11, 17, 35, 36, 37] [] = some X20 := by kernel_rfl

-- (swage/copies.stands).put
noncomputable def X21 : Fi := ⟨(.seq (.sets [(7, (.s 0)), (10, (.ld (.nck (.s 1))))] []) (.seq (.eff ⟨(some 11), (.lookup 69 (.tmp 7) (.tmp 10) .true), 96, "", #[], none⟩) (.seq (.sets [(4, (.ext 0 (.s 11))), (5, (.ext 1 (.s 11)))] []) (.seq (.sets [(14, (.s 5))] []) (.ite (.s 14) (.seq (.sets [(16, (.s 4)), (17, (.nck (.s 1)))] []) (.seq (.act none (.store 1 (.tmp 17) (.tmp 16))) (.sets [] []))) .nop))))), .nl, 18, [0, 1, 4, 5, 14], [], []⟩
theorem x21 : fiOf Tryd.prog 21 [0, 1, 4, 5, 14] [] = some X21 := by kernel_rfl

-- swage/ir.Leaves
noncomputable def X22 : Fi := ⟨(.seq (.sets [(2, (.k (.bool false)))] []) (.seq (.sets [(2, (.or (.bin .eql (.s 0) (.k (.int .i64 9))) (.bin .eql (.s 0) (.k (.int .i64 10)))))] []) .ret)), (.s 2), 9, [0, 2], [], []⟩
theorem x22 : fiOf Tryd.prog 22 [0, 2] [] = some X22 := by kernel_rfl

-- (swage/copies.stands).meta
noncomputable def X23 : Fi := ⟨(.seq (.sets [(6, (.s 1))] []) (.seq (.act (some 7) (.call 39 [(.tmp 6)])) (.seq (.sets [(8, (.len (.s 7))), (9, (.k (.int .i64 0)))] []) (.block 0 (.loop (.seq (.sets [(10, (.bin .lss (.s 9) (.s 8)))] []) (.seq (.ite (.s 10) .nop (.exit 0)) (.seq (.block 1 (.seq (.sets [(5, (.ld (.ix 1 (.s 7) (.s 9))))] []) (.seq (.sets [(17, (.un .not (.ld (.fa 0 (.nck (.s 5))))))] []) (.ite (.s 17) (.seq (.sets [(18, (.s 0)), (21, (.fa 1 (.nck (.s 5))))] []) (.seq (.act (some 22) (.call 21 [(.tmp 18), (.tmp 21)])) (.sets [] []))) .nop)))) (.sets [(9, (.bin .add (.s 9) (.k (.int .i64 1))))] []))))))))), .nl, 24, [0, 1, 5, 7, 8, 9, 10, 17], [], []⟩
theorem x23 : fiOf Tryd.prog 23 [0, 1, 5, 7, 8, 9, 10, 17] [] = some X23 := by kernel_rfl

-- swage/ir.Sets
noncomputable def X24 : Fi := ⟨(.seq (.sets [(2, (.k (.bool false)))] []) (.seq (.sets [(3, (.s 0))] []) (.seq (.block 0 (.seq (.sets [(4, (.or (.bin .eql (.s 3) (.k (.int .i64 1))) (.or (.bin .eql (.s 3) (.k (.int .i64 2))) (.or (.bin .eql (.s 3) (.k (.int .i64 3))) (.bin .eql (.s 3) (.k (.int .i64 6)))))))] []) (.ite (.s 4) (.seq (.sets [(2, (.k (.bool true)))] []) .ret) .nop))) (.seq (.sets [(2, (.k (.bool false)))] []) .ret)))), (.s 2), 9, [0, 2, 3, 4], [], []⟩
theorem x24 : fiOf Tryd.prog 24 [0, 2, 3, 4] [] = some X24 := by kernel_rfl

-- swage/verify.All
noncomputable def X26 : Fi := ⟨(.seq (.sets [(2, (.k (.slice none 0 0))), (3, (.k (.int .i64 0)))] []) (.seq (.sets [(9, (.s 0))] []) (.seq (.act (some 10) (.call 42 [(.tmp 9)])) (.seq (.sets [(11, (.un .not (.s 10)))] []) (.seq (.ite (.s 11) (.seq (.sets [(2, (.k (.slice none 0 0))), (3, (.k (.int .i64 500)))] []) .ret) .nop) (.seq (.sets [(4, (.k (.slice none 0 0)))] []) (.seq (.sets [(16, (.len (.ld (.fa 0 (.nck (.s 0)))))), (17, (.k (.int .i64 0)))] []) (.seq (.block 0 (.loop (.seq (.sets [(18, (.bin .lss (.s 17) (.s 16)))] []) (.seq (.ite (.s 18) .nop (.exit 0)) (.seq (.block 1 (.seq (.sets [(5, (.s 17))] []) (.seq (.sets [(23, (.ldn 1 (.nck (.s 0)))), (24, (.s 5))] []) (.seq (.act (some 25) (.call 43 [(.tmp 23), (.tmp 24)])) (.seq (.sets [(6, (.ext 0 (.s 25))), (8, (.ext 2 (.s 25)))] [(.ext 1 (.s 25))]) (.seq (.sets [(30, (.bin .neq (.s 8) (.k (.int .i64 0))))] []) (.seq (.ite (.s 30) (.seq (.sets [(2, (.k (.slice none 0 0))), (3, (.s 8))] []) .ret) .nop) (.seq (.sets [(32, (.s 4)), (33, (.s 6))] []) (.seq (.act (some 34) (.bslice 35 1 [(.slice none 0 0)] 1 [(0, (.tmp 33))])) (.seq (.act (some 35) (.app 35 1 24 (.tmp 32) (.tmp 34))) (.sets [(4, (.s 35))] []))))))))))) (.sets [(17, (.bin .add (.s 17) (.k (.int .i64 1))))] [])))))) (.seq (.sets [(2, (.s 4)), (3, (.k (.int .i64 0)))] []) .ret))))))))), (.cs (.s 2) (.cs (.s 3) .nl)), 38, [0, 2, 3, 4, 5, 6, 8, 11, 16, 17, 18, 30], [], []⟩
theorem x26 : fiOf Tryd.prog 26 [0, 2, 3, 4, 5, 6, 8, 11, 16, 17, 18, 30] [] = some X26 := by kernel_rfl

-- (*swage/ir.sheet).ins
noncomputable def X27 : Fi := ⟨(.seq (.sets [(4, (.k (.bool false)))] []) (.seq (.sets [(17, (.ldn 9 (.ix 9 (.ld (.fa 2 (.nck (.ld (.fa 0 (.nck (.s 0))))))) (.s 1))))] []) (.seq (.act (some 5) (.var 37 9 (.tmp 17))) (.seq (.sp [.rd 18 (.fa 0 (.s 5)), .rd 19 (.ld (.s 18)), .rd 20 (.bin .lss (.s 19) (.k (.int .i64 0))), .rd 21 (.s 20), .rd 22 (.grd (.s 21) false (.fa 0 (.s 5))), .rd 23 (.grd (.s 21) false (.ld (.s 22))), .rd 24 (.grd (.s 21) false (.bin .gtr (.s 23) (.k (.int .i64 11)))), .rd 25 (.pick (.s 21) (.k (.bool true)) (.s 24)), .rd 26 (.s 25), .rd 27 (.grd (.s 26) false (.s 0)), .ck 19 (.ld (.s 18)), .ck 23 (.grd (.s 21) false (.ld (.s 22))), .hg (some 28) 26 false (.call 44 [(.tmp 27), (.tmp 5)]), .rd 29 (.grd (.s 26) false (.un .not (.s 28))), .rd 30 (.pick (.s 26) (.k (.bool true)) (.s 29)), .rd 31 (.s 30), .rd 32 (.grd (.s 31) false (.s 0)), .rd 33 (.grd (.s 31) false (.s 1)), .hg (some 34) 31 false (.call 45 [(.tmp 32), (.tmp 33), (.tmp 5)]), .rd 35 (.grd (.s 31) false (.un .not (.s 34))), .rd 36 (.pick (.s 31) (.k (.bool true)) (.s 35)), .rd 37 (.s 36), .rd 38 (.grd (.s 37) false (.fa 8 (.s 5))), .rd 39 (.grd (.s 37) false (.ld (.s 38))), .rd 40 (.grd (.s 37) false (.bin .lss (.s 39) (.k (.int .i64 0)))), .rd 41 (.pick (.s 37) (.k (.bool true)) (.s 40)), .rd 42 (.s 41), .rd 43 (.grd (.s 42) false (.fa 8 (.s 5))), .rd 44 (.grd (.s 42) false (.ld (.s 43))), .rd 45 (.grd (.s 42) false (.bin .geq (.s 44) (.k (.int .i64 64)))), .rd 46 (.pick (.s 42) (.k (.bool true)) (.s 45)), .rd 47 (.s 46), .rd 48 (.grd (.s 47) false (.fa 0 (.s 5))), .rd 49 (.grd (.s 47) false (.ld (.s 48))), .ck 39 (.grd (.s 37) false (.ld (.s 38))), .ck 44 (.grd (.s 42) false (.ld (.s 43))), .ck 49 (.grd (.s 47) false (.ld (.s 48))), .hg (some 50) 47 false (.call 22 [(.tmp 49)]), .rd 51 (.grd (.s 47) false (.s 50)), .rd 52 (.grd (.s 51) true (.fa 7 (.s 5))), .rd 53 (.grd (.s 51) true (.ld (.s 52))), .rd 54 (.grd (.s 51) true (.bin .lss (.s 53) (.k (.int .i64 0)))), .rd 55 (.grd (.s 51) true (.s 54)), .rd 56 (.grd (.s 55) false (.fa 7 (.s 5))), .rd 57 (.grd (.s 55) false (.ld (.s 56))), .rd 58 (.grd (.s 55) false (.s 0)), .rd 59 (.grd (.s 55) false (.nck (.s 58))), .rd 60 (.grd (.s 55) false (.fa 0 (.s 59))), .rd 61 (.grd (.s 55) false (.ld (.s 60))), .rd 62 (.grd (.s 55) false (.nck (.s 61))), .rd 63 (.grd (.s 55) false (.fa 3 (.s 62))), .rd 64 (.grd (.s 55) false (.ld (.s 63))), .rd 65 (.grd (.s 55) false (.len (.s 64))), .rd 66 (.grd (.s 55) false (.bin .geq (.s 57) (.s 65))), .rd 67 (.grd (.s 51) true (.pick (.s 55) (.k (.bool true)) (.s 66))), .rd 68 (.grd (.s 47) false (.pick (.s 51) (.s 67) (.k (.bool false)))), .rd 69 (.pick (.s 47) (.k (.bool true)) (.s 68)), .rd 70 (.s 69), .rd 71 (.grd (.s 70) false (.fa 0 (.s 5))), .rd 72 (.grd (.s 70) false (.ld (.s 71))), .rd 73 (.grd (.s 70) false (.bin .neq (.s 72) (.k (.int .i64 6)))), .rd 74 (.grd (.s 70) false (.s 73)), .rd 75 (.grd (.s 74) true (.fa 5 (.s 5))), .rd 76 (.grd (.s 74) true (.ld (.s 75))), .rd 77 (.grd (.s 74) true (.len (.s 76))), .rd 78 (.grd (.s 74) true (.bin .gtr (.s 77) (.k (.int .i64 0)))), .rd 79 (.grd (.s 70) false (.pick (.s 74) (.s 78) (.k (.bool false)))), .rd 80 (.pick (.s 70) (.k (.bool true)) (.s 79)), .ck 53 (.grd (.s 51) true (.ld (.s 52))), .ck 57 (.grd (.s 55) false (.ld (.s 56))), .ck 61 (.grd (.s 55) false (.ld (.s 60))), .ck 64 (.grd (.s 55) false (.ld (.s 63))), .ck 72 (.grd (.s 70) false (.ld (.s 71))), .ck 76 (.grd (.s 74) true (.ld (.s 75)))]) (.seq (.ite (.s 80) (.seq (.sets [(4, (.k (.bool false)))] []) .ret) .nop) (.seq (.act (some 81) (.call 20 [(.tmp 5)])) (.seq (.sets [(82, (.len (.s 81))), (83, (.k (.int .i64 0)))] []) (.seq (.block 0 (.loop (.seq (.sets [(84, (.bin .lss (.s 83) (.s 82)))] []) (.seq (.ite (.s 84) .nop (.exit 0)) (.seq (.block 1 (.seq (.sets [(7, (.ld (.ix 1 (.s 81) (.s 83))))] []) (.seq (.sets [(87, (.s 0)), (90, (.ld (.nck (.s 7))))] []) (.seq (.act (some 91) (.call 46 [(.tmp 87), (.tmp 90)])) (.seq (.sets [(92, (.un .not (.s 91)))] []) (.ite (.s 92) (.seq (.sets [(4, (.k (.bool false)))] []) .ret) .nop)))))) (.sets [(83, (.bin .add (.s 83) (.k (.int .i64 1))))] [])))))) (.seq (.sets [(95, (.ld (.fa 0 (.s 5))))] []) (.seq (.act (some 96) (.call 24 [(.tmp 95)])) (.seq (.ite (.s 96) (.seq (.sets [(97, (.s 0)), (99, (.ld (.fa 1 (.s 5))))] []) (.seq (.act (some 100) (.call 46 [(.tmp 97), (.tmp 99)])) (.seq (.sets [(101, (.un .not (.s 100)))] []) (.seq (.ite (.s 101) (.seq (.sets [(4, (.k (.bool false)))] []) .ret) .nop) (.seq (.sets [(102, (.fa 1 (.s 5)))] []) (.seq (.act none (.store 1 (.tmp 102) (.const (.int .i64 0)))) (.sets [] []))))))) .nop) (.seq (.sets [(104, (.ld (.fa 0 (.s 5))))] []) (.seq (.act (some 105) (.call 22 [(.tmp 104)])) (.seq (.ite (.s 105) (.seq (.sets [(106, (.fa 7 (.s 5)))] []) (.seq (.act none (.store 1 (.tmp 106) (.const (.int .i64 0)))) (.sets [] []))) .nop) (.seq (.sets [(108, (.ld (.fa 0 (.s 5))))] []) (.seq (.block 2 (.seq (.block 4 (.seq (.block 3 (.seq (.sets [(109, (.or (.bin .eql (.s 108) (.k (.int .i64 3))) (.bin .eql (.s 108) (.k (.int .i64 9)))))] []) (.seq (.ite (.s 109) (.exit 3) .nop) (.seq (.sets [(112, (.or (.bin .eql (.s 108) (.k (.int .i64 2))) (.or (.bin .eql (.s 108) (.k (.int .i64 5))) (.or (.bin .eql (.s 108) (.k (.int .i64 7))) (.bin .eql (.s 108) (.k (.int .i64 8)))))))] []) (.seq (.ite (.s 112) (.exit 4) .nop) (.exit 2)))))) (.seq (.sets [(117, (.fa 3 (.s 5)))] []) (.seq (.act none (.store 1 (.tmp 117) (.const (.int .i64 0)))) (.sets [] []))))) (.seq (.sets [(118, (.fa 2 (.s 5)))] []) (.seq (.act none (.store 1 (.tmp 118) (.const (.int .i64 0)))) (.exit 2))))) (.seq (.sets [(4, (.and (.and (.and (.bin .eql (.ld (.fa 1 (.s 5))) (.k (.int .i64 0))) (.bin .eql (.ld (.fa 2 (.s 5))) (.k (.int .i64 0)))) (.bin .eql (.ld (.fa 3 (.s 5))) (.k (.int .i64 0)))) (.bin .eql (.ld (.fa 7 (.s 5))) (.k (.int .i64 0)))))] []) .ret))))))))))))))))), (.s 4), 137, [0, 1, 4, 5, 7, 80, 81, 82, 83, 84, 92, 96, 101, 105, 108, 109, 112], [5], []⟩
theorem x27 : fiOf Tryd.prog 27 [0, 1, 4, 5, 7, 80, 81, 82, 83, 84, 92, 96, 101, 105, 108, 109, 112] [5] = some X27 := by kernel_rfl

-- slices.ContainsFunc[[]swage/api.Meta,swage/api.Meta]
noncomputable def X28 : Fi := ⟨(.seq (.sets [(4, (.k (.bool false)))] []) (.seq (.sets [(5, (.s 0)), (6, (.s 1))] []) (.seq (.act (some 7) (.call 47 [(.tmp 5), (.tmp 6)])) (.seq (.sets [(4, (.bin .geq (.s 7) (.k (.int .i64 0))))] []) .ret)))), (.s 4), 9, [0, 1, 4], [], []⟩
theorem x28 : fiOf Tryd.prog 28 [0, 1, 4] [] = some X28 := by kernel_rfl

-- (*swage/ir.sheet).metaNot
noncomputable def X29 : Fi := ⟨(.seq (.act (some 3) (.box 61 (.tmp 1))) (.seq (.sets [(4, (.k (.bool false)))] []) (.seq (.sets [(9, (.len (.ld (.fa 0 (.s 3)))))] []) (.seq (.block 0 (.seq (.sets [(10, (.bin .eql (.s 9) (.k (.int .i64 1))))] []) (.ite (.s 10) (.seq (.sp [.rd 12 (.fa 0 (.s 3)), .rd 13 (.ld (.s 12)), .rd 14 (.ix 4 (.s 13) (.k (.int .i64 0))), .rd 15 (.fa 0 (.s 14)), .rd 16 (.ld (.s 15)), .rd 17 (.s 0), .rd 18 (.nck (.s 17)), .rd 19 (.fa 0 (.s 18)), .rd 20 (.ld (.s 19)), .rd 21 (.nck (.s 20)), .rd 22 (.fa 0 (.s 21)), .rd 23 (.ld (.s 22)), .rd 24 (.bin .neq (.s 16) (.s 23)), .rd 25 (.s 24), .rd 26 (.grd (.s 25) false (.s 0)), .rd 27 (.grd (.s 25) false (.fa 0 (.s 3))), .rd 28 (.grd (.s 25) false (.ld (.s 27))), .rd 29 (.grd (.s 25) false (.ix 4 (.s 28) (.k (.int .i64 0)))), .ck 13 (.ld (.s 12)), .ck 16 (.ld (.s 15)), .ck 20 (.ld (.s 19)), .ck 23 (.ld (.s 22)), .ck 28 (.grd (.s 25) false (.ld (.s 27))), .hg (some 30) 25 false (.call 48 [(.tmp 26), (.tmp 29), (.const (.int .i64 0))]), .rd 31 (.grd (.s 25) false (.un .not (.s 30))), .rd 32 (.pick (.s 25) (.k (.bool true)) (.s 31)), .rd 4 (.s 32)]) .ret) (.seq (.sets [(33, (.bin .eql (.s 9) (.k (.int .i64 2))))] []) (.ite (.s 33) (.seq (.sets [(5, (.ix 4 (.ld (.fa 0 (.s 3))) (.k (.int .i64 0)))), (6, (.ix 4 (.ld (.fa 0 (.s 3))) (.k (.int .i64 1))))] []) (.seq (.sp [.rd 41 (.s 5), .rd 42 (.nck (.s 41)), .rd 43 (.fa 0 (.s 42)), .rd 44 (.ld (.s 43)), .rd 45 (.s 0), .rd 46 (.nck (.s 45)), .rd 47 (.fa 0 (.s 46)), .rd 48 (.ld (.s 47)), .rd 49 (.nck (.s 48)), .rd 50 (.fa 0 (.s 49)), .rd 51 (.ld (.s 50)), .rd 52 (.bin .neq (.s 44) (.s 51)), .rd 53 (.s 52), .rd 54 (.grd (.s 53) false (.s 0)), .rd 55 (.grd (.s 53) false (.s 5)), .ck 44 (.ld (.s 43)), .ck 48 (.ld (.s 47)), .ck 51 (.ld (.s 50)), .hg (some 56) 53 false (.call 48 [(.tmp 54), (.tmp 55), (.const (.int .i64 1))]), .rd 57 (.grd (.s 53) false (.un .not (.s 56))), .rd 58 (.pick (.s 53) (.k (.bool true)) (.s 57)), .rd 59 (.s 58), .rd 60 (.grd (.s 59) false (.s 0)), .rd 61 (.grd (.s 59) false (.s 6)), .hg (some 62) 59 false (.call 48 [(.tmp 60), (.tmp 61), (.const (.int .i64 0))]), .rd 63 (.grd (.s 59) false (.un .not (.s 62))), .rd 64 (.pick (.s 59) (.k (.bool true)) (.s 63)), .rd 65 (.s 64), .rd 66 (.grd (.s 65) false (.s 0)), .rd 67 (.grd (.s 65) false (.nck (.s 66))), .rd 68 (.grd (.s 65) false (.fa 1 (.s 67))), .rd 69 (.grd (.s 65) false (.ld (.s 68))), .rd 70 (.grd (.s 65) false (.s 0)), .rd 71 (.grd (.s 65) false (.nck (.s 70))), .rd 72 (.grd (.s 65) false (.fa 2 (.s 71))), .rd 73 (.grd (.s 65) false (.ld (.s 72))), .rd 74 (.grd (.s 65) false (.s 5)), .rd 75 (.grd (.s 65) false (.nck (.s 74))), .rd 76 (.grd (.s 65) false (.fa 0 (.s 75))), .rd 77 (.grd (.s 65) false (.ld (.s 76))), .rd 78 (.grd (.s 65) false (.s 5)), .rd 79 (.grd (.s 65) false (.nck (.s 78))), .rd 80 (.grd (.s 65) false (.fa 1 (.s 79))), .rd 81 (.grd (.s 65) false (.ld (.s 80))), .rd 82 (.grd (.s 65) false (.s 6)), .rd 83 (.grd (.s 65) false (.nck (.s 82))), .rd 84 (.grd (.s 65) false (.fa 0 (.s 83))), .rd 85 (.grd (.s 65) false (.ld (.s 84))), .ck 69 (.grd (.s 65) false (.ld (.s 68))), .ck 73 (.grd (.s 65) false (.ld (.s 72))), .ck 77 (.grd (.s 65) false (.ld (.s 76))), .ck 81 (.grd (.s 65) false (.ld (.s 80))), .ck 85 (.grd (.s 65) false (.ld (.s 84))), .hg (some 86) 65 false (.call 49 [(.tmp 69), (.tmp 73), (.tmp 77), (.tmp 81), (.tmp 85)]), .rd 87 (.grd (.s 65) false (.un .not (.s 86))), .rd 88 (.pick (.s 65) (.k (.bool true)) (.s 87)), .rd 4 (.s 88)]) .ret)) .nop))))) (.seq (.sets [(4, (.k (.bool true)))] []) .ret))))), (.s 4), 89, [0, 1, 3, 4, 5, 6, 9, 10, 33], [], []⟩
theorem x29 : fiOf Tryd.prog 29 [0, 1, 3, 4, 5, 6, 9, 10, 33] [] = some X29 := by kernel_rfl

-- swage/swagelaw0.SameInts
noncomputable def X30 : Fi := ⟨(.seq (.sets [(4, (.k (.bool false)))] []) (.seq (.sets [(10, (.bin .neq (.len (.s 0)) (.len (.s 1))))] []) (.seq (.ite (.s 10) (.seq (.sets [(4, (.k (.bool false)))] []) .ret) .nop) (.seq (.sets [(5, (.k (.int .i64 0)))] []) (.seq (.block 0 (.loop (.seq (.sets [(14, (.bin .lss (.s 5) (.len (.s 0))))] []) (.seq (.ite (.s 14) .nop (.exit 0)) (.seq (.block 1 (.seq (.sets [(25, (.bin .neq (.ld (.ix 1 (.s 0) (.s 5))) (.ld (.ix 1 (.s 1) (.s 5)))))] []) (.ite (.s 25) (.seq (.sets [(4, (.k (.bool false)))] []) .ret) .nop))) (.sets [(5, (.bin .add (.s 5) (.k (.int .i64 1))))] [])))))) (.seq (.sets [(4, (.k (.bool true)))] []) .ret)))))), (.s 4), 26, [0, 1, 4, 5, 10, 14, 25], [], []⟩
theorem x30 : fiOf Tryd.prog 30 [0, 1, 4, 5, 10, 14, 25] [] = some X30 := by kernel_rfl

-- (swage/fold.known).meta
noncomputable def X32 : Fi := ⟨(.seq (.sets [(8, (.s 1))] []) (.seq (.act (some 9) (.call 39 [(.tmp 8)])) (.seq (.sets [(10, (.len (.s 9))), (11, (.k (.int .i64 0)))] []) (.block 0 (.loop (.seq (.sets [(12, (.bin .lss (.s 11) (.s 10)))] []) (.seq (.ite (.s 12) .nop (.exit 0)) (.seq (.block 1 (.seq (.sets [(5, (.ld (.ix 1 (.s 9) (.s 11))))] []) (.seq (.sets [(16, (.s 0)), (20, (.ld (.fa 1 (.nck (.s 5)))))] []) (.seq (.eff ⟨(some 21), (.lookup 89 (.tmp 16) (.tmp 20) .true), 96, "", #[], none⟩) (.seq (.sets [(6, (.ext 0 (.s 21))), (7, (.ext 1 (.s 21)))] []) (.seq (.sets [(31, (.and (.s 7) (.un .not (.ld (.fa 0 (.nck (.s 5)))))))] []) (.ite (.s 31) (.seq (.sets [(34, (.bld [(.bool false), (.int .i64 0)] [(0, 1), (1, 1)] (.cs (.k (.bool true)) (.cs (.s 6) .nl)))), (35, (.nck (.s 5)))] []) (.seq (.act none (.store 2 (.tmp 35) (.tmp 34))) (.sets [] []))) .nop))))))) (.sets [(11, (.bin .add (.s 11) (.k (.int .i64 1))))] []))))))))), .nl, 37, [0, 1, 5, 6, 7, 9, 10, 11, 12, 31], [], []⟩
theorem x32 : fiOf Tryd.prog 32 [0, 1, 5, 6, 7, 9, 10, 11, 12, 31] [] = some X32 := by kernel_rfl

-- (swage/fold.known).ins
noncomputable def X33 : Fi := ⟨(.seq (.act (some 3) (.box 37 (.tmp 1))) (.seq (.act (some 4) (.alloc 37 (.agg #[(.int .i64 0), (.int .i64 0), (.int .i64 0), (.int .i64 0), (.int .i64 0), (.slice none 0 0), (.int .i64 0), (.int .i64 0), (.int .i64 0)]))) (.seq (.sets [(15, (.bld [(.int .i64 0), (.int .i64 0), (.int .i64 0), (.int .i64 0), (.int .i64 0), (.slice none 0 0), (.int .i64 0), (.int .i64 0), (.int .i64 0)] [(0, 1), (6, 1), (8, 1)] (.cs (.k (.int .i64 0)) (.cs (.ld (.fa 6 (.s 3))) (.cs (.ld (.fa 8 (.s 3))) .nl)))))] []) (.seq (.act (some 5) (.var 37 9 (.tmp 15))) (.seq (.sets [(16, (.ldn 9 (.s 5)))] []) (.seq (.act (some 6) (.var 37 9 (.tmp 16))) (.seq (.sp [.rd 17 (.fa 1 (.s 3)), .rd 18 (.ld (.s 17)), .rd 19 (.fa 0 (.s 6)), .ck 18 (.ld (.s 17)), .hd none (.store 1 (.tmp 19) (.const (.int .i64 1))), .rd 20 (.fa 1 (.s 6)), .ck 18 (.ld (.s 17)), .hd none (.store 1 (.tmp 20) (.tmp 18))]) (.seq (.sets [(22, (.s 0)), (24, (.ld (.fa 2 (.s 3))))] []) (.seq (.eff ⟨(some 25), (.lookup 89 (.tmp 22) (.tmp 24) .true), 96, "", #[], none⟩) (.seq (.sets [(7, (.ext 0 (.s 25))), (8, (.ext 1 (.s 25)))] []) (.seq (.sets [(29, (.ld (.fa 0 (.s 3))))] []) (.seq (.block 0 (.seq (.sets [(30, (.bin .eql (.s 29) (.k (.int .i64 2))))] []) (.ite (.s 30) (.seq (.sets [(32, (.s 8))] []) (.ite (.s 32) (.seq (.sets [(33, (.s 7)), (34, (.fa 4 (.s 6)))] []) (.seq (.act none (.store 1 (.tmp 34) (.tmp 33))) (.seq (.sets [(35, (.ldn 9 (.s 6)))] []) (.seq (.act none (.store 9 (.tmp 4) (.tmp 35))) .ret)))) .nop)) (.seq (.sets [(36, (.bin .eql (.s 29) (.k (.int .i64 3))))] []) (.ite (.s 36) (.seq (.sets [(39, (.s 0)), (40, (.ldn 9 (.s 3)))] []) (.seq (.act (some 41) (.call 50 [(.tmp 39), (.tmp 40)])) (.seq (.sets [(9, (.ext 0 (.s 41))), (10, (.ext 1 (.s 41)))] []) (.seq (.sets [(44, (.s 10))] []) (.ite (.s 44) (.seq (.sets [(45, (.s 9)), (46, (.fa 4 (.s 6)))] []) (.seq (.act none (.store 1 (.tmp 46) (.tmp 45))) (.seq (.sets [(47, (.ldn 9 (.s 6)))] []) (.seq (.act none (.store 9 (.tmp 4) (.tmp 47))) .ret)))) .nop))))) (.seq (.sets [(48, (.bin .eql (.s 29) (.k (.int .i64 5))))] []) (.ite (.s 48) (.block 1 (.seq (.block 3 (.seq (.block 2 (.seq (.sets [(50, (.and (.s 8) (.bin .eql (.s 7) (.k (.int .i64 0)))))] []) (.seq (.ite (.s 50) (.exit 2) .nop) (.seq (.sets [(56, (.s 8))] []) (.seq (.ite (.s 56) (.exit 3) .nop) (.exit 1)))))) (.sp [.rd 58 (.fa 4 (.s 3)), .rd 59 (.ld (.s 58)), .rd 60 (.fa 0 (.s 5)), .ck 59 (.ld (.s 58)), .hd none (.store 1 (.tmp 60) (.const (.int .i64 4))), .rd 61 (.fa 4 (.s 5)), .ck 59 (.ld (.s 58)), .hd none (.store 1 (.tmp 61) (.tmp 59))]))) (.seq (.sets [(62, (.ldn 9 (.s 5)))] []) (.seq (.act none (.store 9 (.tmp 4) (.tmp 62))) (.seq .ret (.exit 1)))))) (.seq (.sets [(63, (.bin .eql (.s 29) (.k (.int .i64 9))))] []) (.ite (.s 63) (.seq (.sets [(75, (.and (.s 8) (.eqb false (.bin .eql (.s 7) (.ld (.fa 4 (.s 3)))) (.bin .eql (.ld (.fa 3 (.s 3))) (.k (.int .i64 0))))))] []) (.ite (.s 75) (.seq (.sets [(76, (.ldn 9 (.s 5)))] []) (.seq (.act none (.store 9 (.tmp 4) (.tmp 76))) .ret)) .nop)) .nop))))))))) (.seq (.sets [(77, (.ldn 9 (.s 3)))] []) (.seq (.act none (.store 9 (.tmp 4) (.tmp 77))) .ret)))))))))))))), (.ldn 9 (.s 4)), 78, [0, 1, 3, 4, 5, 6, 7, 8, 9, 10, 29, 30, 32, 36, 44, 48, 50, 56, 63, 75], [5, 6], []⟩
theorem x33 : fiOf Tryd.prog 33 [0, 1, 3, 4, 5, 6, 7, 8, 9, 10, 29, 30, 32, 36, 44, 48, 50, 56, 63, 75] [5, 6] = some X33 := by kernel_rfl

-- (swage/fold.known).learn
noncomputable def X34 : Fi := ⟨(.block 0 (.seq (.sets [(4, (.bin .eql (.ld (.fa 0 (.nck (.s 1)))) (.k (.int .i64 1))))] []) (.ite (.s 4) (.sp [.rd 10 (.s 0), .rd 11 (.s 1), .rd 12 (.nck (.s 11)), .rd 13 (.fa 1 (.s 12)), .rd 14 (.ld (.s 13)), .rd 15 (.s 1), .rd 16 (.nck (.s 15)), .rd 17 (.fa 4 (.s 16)), .rd 18 (.ld (.s 17)), .ck 14 (.ld (.s 13)), .ck 18 (.ld (.s 17)), .ho ⟨none, (.mapUpdate 89 (.tmp 10) (.tmp 14) (.tmp 18)), 0, "", #[], none⟩]) (.seq (.sets [(23, (.ld (.fa 0 (.nck (.s 1)))))] []) (.seq (.act (some 24) (.call 24 [(.tmp 23)])) (.seq (.sets [(19, (.s 24))] []) (.ite (.s 19) (.seq (.sets [(25, (.s 0)), (29, (.ld (.fa 1 (.nck (.s 1)))))] []) (.seq (.eff ⟨none, (.call ⟨(.builtin .delete), #[(.tmp 25), (.tmp 29)], #[89, 3]⟩), 0, "", #[], none⟩) (.sets [] []))) (.seq (.sets [(30, (.and (.bin .eql (.ld (.fa 0 (.nck (.s 1)))) (.k (.int .i64 9))) (.bin .eql (.ld (.fa 3 (.nck (.s 1)))) (.k (.int .i64 0)))))] []) (.ite (.s 30) (.sp [.rd 43 (.s 0), .rd 44 (.s 1), .rd 45 (.nck (.s 44)), .rd 46 (.fa 2 (.s 45)), .rd 47 (.ld (.s 46)), .rd 48 (.s 1), .rd 49 (.nck (.s 48)), .rd 50 (.fa 4 (.s 49)), .rd 51 (.ld (.s 50)), .ck 47 (.ld (.s 46)), .ck 51 (.ld (.s 50)), .ho ⟨none, (.mapUpdate 89 (.tmp 43) (.tmp 47) (.tmp 51)), 0, "", #[], none⟩]) .nop))))))))), .nl, 52, [0, 1, 4, 19, 30], [], []⟩
theorem x34 : fiOf Tryd.prog 34 [0, 1, 4, 19, 30] [] = some X34 := by kernel_rfl

-- slices.Clone[[]swage/api.Ir,swage/api.Ir]
noncomputable def X35 : Fi := ⟨(.seq (.sets [(2, (.k (.slice none 0 0)))] []) (.seq (.sets [(4, (.eqz false (.s 0) (.k (.slice none 0 0))))] []) (.seq (.ite (.s 4) (.seq (.sets [(2, (.k (.slice none 0 0)))] []) .ret) .nop) (.seq (.act (some 5) (.bslice 37 9 [] 0 [])) (.seq (.sets [(6, (.s 0))] []) (.seq (.act (some 7) (.app 37 9 88 (.tmp 5) (.tmp 6))) (.seq (.sets [(2, (.s 7))] []) .ret))))))), (.s 2), 8, [0, 2, 4], [], []⟩
theorem x35 : fiOf Tryd.prog 35 [0, 2, 4] [] = some X35 := by kernel_rfl

-- slices.Clone[[]swage/api.Meta,swage/api.Meta]
noncomputable def X36 : Fi := ⟨(.seq (.sets [(2, (.k (.slice none 0 0)))] []) (.seq (.sets [(4, (.eqz false (.s 0) (.k (.slice none 0 0))))] []) (.seq (.ite (.s 4) (.seq (.sets [(2, (.k (.slice none 0 0)))] []) .ret) .nop) (.seq (.act (some 5) (.bslice 61 1 [] 0 [])) (.seq (.sets [(6, (.s 0))] []) (.seq (.act (some 7) (.app 61 1 24 (.tmp 5) (.tmp 6))) (.seq (.sets [(2, (.s 7))] []) .ret))))))), (.s 2), 8, [0, 2, 4], [], []⟩
theorem x36 : fiOf Tryd.prog 36 [0, 2, 4] [] = some X36 := by kernel_rfl

-- slices.Clone[[]int,int]
noncomputable def X37 : Fi := ⟨(.seq (.sets [(2, (.k (.slice none 0 0)))] []) (.seq (.sets [(4, (.eqz false (.s 0) (.k (.slice none 0 0))))] []) (.seq (.ite (.s 4) (.seq (.sets [(2, (.k (.slice none 0 0)))] []) .ret) .nop) (.seq (.act (some 5) (.bslice 3 1 [] 0 [])) (.seq (.sets [(6, (.s 0))] []) (.seq (.act (some 7) (.app 3 1 8 (.tmp 5) (.tmp 6))) (.seq (.sets [(2, (.s 7))] []) .ret))))))), (.s 2), 8, [0, 2, 4], [], []⟩
theorem x37 : fiOf Tryd.prog 37 [0, 2, 4] [] = some X37 := by kernel_rfl

-- swage/ir.CopyMeta
noncomputable def X38 : Fi := ⟨(.seq (.act (some 1) (.box 61 (.tmp 0))) (.seq (.act (some 2) (.alloc 61 (.agg #[(.slice none 0 0)]))) (.seq (.sets [(5, (.ld (.fa 0 (.s 1))))] []) (.seq (.act (some 6) (.call 51 [(.tmp 5)])) (.seq (.sets [(7, (.fa 0 (.s 1)))] []) (.seq (.act none (.store 1 (.tmp 7) (.tmp 6))) (.seq (.sets [(10, (.len (.ld (.fa 0 (.s 1))))), (11, (.k (.int .i64 0)))] []) (.seq (.block 0 (.loop (.seq (.sets [(12, (.bin .lss (.s 11) (.s 10)))] []) (.seq (.ite (.s 12) .nop (.exit 0)) (.seq (.block 1 (.seq (.sets [(3, (.s 11))] []) (.sp [.rd 14 (.fa 0 (.s 1)), .rd 15 (.ld (.s 14)), .rd 16 (.s 3), .rd 17 (.fa 0 (.s 1)), .rd 18 (.ld (.s 17)), .rd 19 (.s 3), .rd 20 (.fa 0 (.s 1)), .rd 21 (.ld (.s 20)), .rd 22 (.s 3), .rd 23 (.ix 4 (.s 21) (.s 22)), .rd 24 (.fa 2 (.s 23)), .rd 25 (.ld (.s 24)), .rd 27 (.fa 0 (.s 1)), .rd 28 (.ld (.s 27)), .rd 29 (.s 3), .rd 30 (.ix 4 (.s 28) (.s 29)), .rd 31 (.fa 3 (.s 30)), .rd 32 (.ld (.s 31)), .ck 15 (.ld (.s 14)), .ck 18 (.ld (.s 17)), .ck 21 (.ld (.s 20)), .ck 25 (.ld (.s 24)), .ck 28 (.ld (.s 27)), .ck 32 (.ld (.s 31)), .hd (some 26) (.call 52 [(.tmp 25)]), .ck 15 (.ld (.s 14)), .ck 18 (.ld (.s 17)), .ck 28 (.ld (.s 27)), .ck 32 (.ld (.s 31)), .hd (some 33) (.call 52 [(.tmp 32)]), .rd 34 (.ix 4 (.s 15) (.s 16)), .rd 35 (.fa 2 (.s 34)), .ck 15 (.ld (.s 14)), .ck 18 (.ld (.s 17)), .hd none (.store 1 (.tmp 35) (.tmp 26)), .rd 36 (.ix 4 (.s 18) (.s 19)), .rd 37 (.fa 3 (.s 36)), .ck 18 (.ld (.s 17)), .hd none (.store 1 (.tmp 37) (.tmp 33))]))) (.sets [(11, (.bin .add (.s 11) (.k (.int .i64 1))))] [])))))) (.seq (.sets [(39, (.ldn 1 (.s 1)))] []) (.seq (.act none (.store 1 (.tmp 2) (.tmp 39))) .ret)))))))))), (.ldn 1 (.s 2)), 40, [0, 1, 2, 3, 10, 11, 12], [1], []⟩
theorem x38 : fiOf Tryd.prog 38 [0, 1, 2, 3, 10, 11, 12] [1] = some X38 := by kernel_rfl

-- swage/ir.Srcs
noncomputable def X39 : Fi := ⟨(.seq (.sets [(2, (.k (.slice none 0 0)))] []) (.seq (.sets [(3, (.k (.slice none 0 0)))] []) (.seq (.sets [(12, (.len (.ld (.fa 0 (.nck (.s 0)))))), (13, (.k (.int .i64 0)))] []) (.seq (.block 0 (.loop (.seq (.sets [(14, (.bin .lss (.s 13) (.s 12)))] []) (.seq (.ite (.s 14) .nop (.exit 0)) (.seq (.block 1 (.seq (.sets [(4, (.s 13))] []) (.seq (.sp [.rd 16 (.s 0), .rd 17 (.nck (.s 16)), .rd 18 (.fa 0 (.s 17)), .rd 19 (.ld (.s 18)), .rd 20 (.s 4), .rd 21 (.ix 4 (.s 19) (.s 20)), .rd 22 (.fa 2 (.s 21)), .rd 23 (.ld (.s 22)), .rd 24 (.s 0), .rd 25 (.nck (.s 24)), .rd 26 (.fa 0 (.s 25)), .rd 27 (.ld (.s 26)), .rd 28 (.s 4), .rd 29 (.ix 4 (.s 27) (.s 28)), .rd 30 (.fa 3 (.s 29)), .rd 31 (.ld (.s 30)), .fr 32 (.bslice 56 1 [(.slice none 0 0), (.slice none 0 0)] 2 [(0, (.tmp 23)), (1, (.tmp 31))]), .rd 33 (.len (.s 32)), .rd 34 (.k (.int .i64 0)), .ck 19 (.ld (.s 18)), .ck 23 (.ld (.s 22)), .ck 27 (.ld (.s 26)), .ck 31 (.ld (.s 30)), .cf 32 (.bslice 56 1 [(.slice none 0 0), (.slice none 0 0)] 2 [(0, (.tmp 23)), (1, (.tmp 31))])]) (.block 2 (.loop (.seq (.sets [(35, (.bin .lss (.s 34) (.s 33)))] []) (.seq (.ite (.s 35) .nop (.exit 2)) (.seq (.block 3 (.seq (.sets [(6, (.ld (.ix 1 (.s 32) (.s 34))))] []) (.seq (.sets [(39, (.len (.s 6))), (40, (.k (.int .i64 0)))] []) (.block 4 (.loop (.seq (.sets [(41, (.bin .lss (.s 40) (.s 39)))] []) (.seq (.ite (.s 41) .nop (.exit 4)) (.seq (.block 5 (.seq (.sets [(7, (.s 40))] []) (.seq (.sets [(43, (.s 3)), (46, (.ix 2 (.s 6) (.s 7)))] []) (.seq (.act (some 47) (.bslice 99 1 [(.pointer none)] 1 [(0, (.tmp 46))])) (.seq (.act (some 48) (.app 99 1 8 (.tmp 43) (.tmp 47))) (.sets [(3, (.s 48))] [])))))) (.sets [(40, (.bin .add (.s 40) (.k (.int .i64 1))))] []))))))))) (.sets [(34, (.bin .add (.s 34) (.k (.int .i64 1))))] []))))))))) (.sets [(13, (.bin .add (.s 13) (.k (.int .i64 1))))] [])))))) (.seq (.sets [(2, (.s 3))] []) .ret))))), (.s 2), 53, [0, 2, 3, 4, 6, 7, 12, 13, 14, 32, 33, 34, 35, 39, 40, 41], [], []⟩
theorem x39 : fiOf Tryd.prog 39 [0, 2, 3, 4, 6, 7, 12, 13, 14, 32, 33, 34, 35, 39, 40, 41] [] = some X39 := by kernel_rfl

-- swage/pack.May
noncomputable def X42 : Fi := ⟨(.seq (.sets [(2, (.k (.bool false)))] []) (.seq (.sets [(17, (.and (.bin .geq (.len (.ld (.fa 0 (.nck (.s 0))))) (.k (.int .i64 1))) (.bin .leq (.len (.ld (.fa 0 (.nck (.s 0))))) (.k (.int .i64 8))))), (21, (.grd (.and (.bin .geq (.len (.ld (.fa 0 (.nck (.s 0))))) (.k (.int .i64 1))) (.bin .leq (.len (.ld (.fa 0 (.nck (.s 0))))) (.k (.int .i64 8)))) true (.ld (.fa 0 (.nck (.s 0))))))] []) (.seq (.ite (.s 17) (.act (some 22) (.call 53 [(.tmp 21), (.func 54)])) (.sets [(22, (.k (.tuple #[])))] [])) (.seq (.sets [(2, (.and (.s 17) (.un .not (.s 22))))] []) .ret)))), (.s 2), 25, [0, 2], [], []⟩
theorem x42 : fiOf Tryd.prog 42 [0, 2] [] = some X42 := by kernel_rfl

-- swage/verify.Heights
noncomputable def X43 : Fi := ⟨(.seq (.act (some 2) (.box 24 (.tmp 0))) (.seq (.sets [(4, (.k (.slice none 0 0))), (5, (.k (.int .i64 0))), (6, (.k (.int .i64 0)))] []) (.seq (.act (some 14) (.call 42 [(.tmp 2)])) (.seq (.sets [(26, (.or (.or (.un .not (.s 14)) (.bin .lss (.s 1) (.k (.int .i64 0)))) (.bin .geq (.s 1) (.len (.ld (.fa 0 (.s 2)))))))] []) (.seq (.ite (.s 26) (.seq (.sets [(4, (.k (.slice none 0 0))), (5, (.k (.int .i64 0))), (6, (.k (.int .i64 500)))] []) .ret) .nop) (.seq (.sets [(7, (.ix 3 (.ld (.fa 0 (.s 2))) (.s 1)))] []) (.seq (.sets [(34, (.ldn 3 (.nck (.s 7))))] []) (.seq (.act (some 35) (.call 55 [(.tmp 34)])) (.seq (.sets [(8, (.ext 0 (.s 35)))] [(.ext 1 (.s 35))]) (.seq (.sets [(38, (.s 7)), (39, (.s 8))] []) (.seq (.act (some 40) (.call 56 [(.tmp 2), (.tmp 38), (.tmp 39)])) (.seq (.sets [(10, (.s 40))] []) (.seq (.sets [(11, (.k (.slice none 0 0)))] []) (.seq (.sets [(41, (.s 10))] []) (.seq (.eff ⟨(some 42), (.binOp .eql 120 (.tmp 41) (.const .nilIface) 120), 4, "", #[], none⟩) (.seq (.ite (.s 42) (.seq (.sets [(44, (.s 7))] []) (.seq (.act (some 45) (.call 57 [(.tmp 2), (.tmp 44)])) (.sets [(11, (.ext 0 (.s 45))), (10, (.ext 1 (.s 45)))] []))) .nop) (.seq (.sets [(49, (.s 10))] []) (.seq (.act (some 50) (.call 58 [(.tmp 49)])) (.seq (.sets [(12, (.ext 0 (.s 50))), (13, (.ext 1 (.s 50)))] []) (.seq (.sets [(4, (.s 11)), (5, (.s 12)), (6, (.s 13))] []) .ret)))))))))))))))))))), (.cs (.s 4) (.cs (.s 5) (.cs (.s 6) .nl))), 56, [0, 1, 2, 4, 5, 6, 7, 8, 10, 11, 12, 13, 26, 42], [], []⟩
theorem x43 : fiOf Tryd.prog 43 [0, 1, 2, 4, 5, 6, 7, 8, 10, 11, 12, 13, 26, 42] [] = some X43 := by kernel_rfl

-- (*swage/ir.sheet).k
noncomputable def X44 : Fi := ⟨(.seq (.sets [(4, (.k (.bool false)))] []) (.seq (.sets [(8, (.ld (.fa 0 (.nck (.s 1)))))] []) (.seq (.block 0 (.seq (.sets [(9, (.bin .eql (.s 8) (.k (.int .i64 1))))] []) (.ite (.s 9) (.seq (.sets [(14, (.ld (.fa 4 (.nck (.s 1)))))] []) (.seq (.act (some 15) (.call 59 [(.tmp 14)])) (.seq (.sets [(4, (.s 15))] []) .ret))) (.seq (.sets [(16, (.bin .eql (.s 8) (.k (.int .i64 9))))] []) (.ite (.s 16) (.seq (.sets [(21, (.ld (.fa 4 (.nck (.s 1)))))] []) (.seq (.act (some 22) (.call 59 [(.tmp 21)])) (.seq (.sets [(4, (.and (.s 22) (.or (.grd (.s 22) true (.bin .eql (.ld (.fa 3 (.nck (.s 1)))) (.k (.int .i64 0)))) (.bin .eql (.ld (.fa 3 (.nck (.s 1)))) (.k (.int .i64 1))))))] [(.grd (.grd (.s 22) true (.bin .eql (.ld (.fa 3 (.nck (.s 1)))) (.k (.int .i64 0)))) false (.bin .eql (.ld (.fa 3 (.nck (.s 1)))) (.k (.int .i64 1))))]) .ret))) (.seq (.sets [(37, (.bin .eql (.s 8) (.k (.int .i64 3))))] []) (.ite (.s 37) (.seq (.sets [(4, (.and (.bin .geq (.ld (.fa 4 (.nck (.s 1)))) (.k (.int .i64 3))) (.bin .leq (.ld (.fa 4 (.nck (.s 1)))) (.k (.int .i64 9)))))] []) .ret) (.seq (.sets [(51, (.or (.bin .eql (.s 8) (.k (.int .i64 4))) (.bin .eql (.s 8) (.k (.int .i64 5)))))] []) (.ite (.s 51) (.seq (.sets [(4, (.and (.bin .geq (.ld (.fa 4 (.nck (.s 1)))) (.k (.int .i64 0))) (.bin .lss (.ld (.fa 4 (.nck (.s 1)))) (.len (.ld (.fa 2 (.nck (.ld (.fa 0 (.nck (.s 0)))))))))))] []) .ret) (.seq (.sets [(74, (.bin .eql (.s 8) (.k (.int .i64 6))))] []) (.ite (.s 74) (.seq (.sets [(4, (.and (.and (.bin .geq (.ld (.fa 4 (.nck (.s 1)))) (.k (.int .i64 0))) (.bin .lss (.ld (.fa 4 (.nck (.s 1)))) (.len (.ld (.fa 0 (.nck (.ld (.fa 1 (.nck (.s 0)))))))))) (.bin .eql (.len (.ld (.fa 5 (.nck (.s 1))))) (.ld (.fa 0 (.ix 3 (.ld (.fa 0 (.nck (.ld (.fa 1 (.nck (.s 0))))))) (.ld (.fa 4 (.nck (.s 1))))))))))] []) .ret) .nop))))))))))) (.seq (.sets [(4, (.bin .eql (.ld (.fa 4 (.nck (.s 1)))) (.k (.int .i64 0))))] []) .ret)))), (.s 4), 123, [0, 1, 4, 8, 9, 16, 37, 51, 74], [], []⟩
theorem x44 : fiOf Tryd.prog 44 [0, 1, 4, 8, 9, 16, 37, 51, 74] [] = some X44 := by kernel_rfl

-- (*swage/ir.sheet).dear
noncomputable def X45 : Fi := ⟨(.seq (.sets [(6, (.k (.bool false)))] []) (.seq (.sets [(20, (.or (.bin .eql (.ld (.fa 0 (.nck (.s 2)))) (.k (.int .i64 6))) (.bin .eql (.ld (.fa 0 (.nck (.s 2)))) (.k (.int .i64 7))))), (24, (.grd (.or (.bin .eql (.ld (.fa 0 (.nck (.s 2)))) (.k (.int .i64 6))) (.bin .eql (.ld (.fa 0 (.nck (.s 2)))) (.k (.int .i64 7)))) false (.ld (.fa 0 (.nck (.s 2))))))] []) (.seq (.ite (.s 20) (.sets [(25, (.k (.tuple #[])))] []) (.act (some 25) (.call 60 [(.tmp 24)]))) (.seq (.sets [(7, (.or (.s 20) (.and (.grd (.s 20) false (.s 25)) (.bin .leq (.ld (.fa 4 (.nck (.s 2)))) (.s 1)))))] [(.grd (.grd (.s 20) false (.s 25)) true (.bin .leq (.ld (.fa 4 (.nck (.s 2)))) (.s 1)))]) (.seq (.sets [(6, (.and (.bin .leq (.ld (.fa 6 (.nck (.s 2)))) (.k (.int .i64 256))) (.or (.grd (.bin .leq (.ld (.fa 6 (.nck (.s 2)))) (.k (.int .i64 256))) true (.bin .gtr (.ld (.fa 6 (.nck (.s 2)))) (.k (.int .i64 0)))) (.and (.grd (.grd (.bin .leq (.ld (.fa 6 (.nck (.s 2)))) (.k (.int .i64 256))) true (.bin .gtr (.ld (.fa 6 (.nck (.s 2)))) (.k (.int .i64 0)))) false (.bin .eql (.ld (.fa 6 (.nck (.s 2)))) (.k (.int .i64 0)))) (.un .not (.s 7))))))] [(.grd (.grd (.bin .leq (.ld (.fa 6 (.nck (.s 2)))) (.k (.int .i64 256))) true (.bin .gtr (.ld (.fa 6 (.nck (.s 2)))) (.k (.int .i64 0)))) false (.and (.grd (.grd (.bin .leq (.ld (.fa 6 (.nck (.s 2)))) (.k (.int .i64 256))) true (.bin .gtr (.ld (.fa 6 (.nck (.s 2)))) (.k (.int .i64 0)))) false (.bin .eql (.ld (.fa 6 (.nck (.s 2)))) (.k (.int .i64 0)))) (.un .not (.s 7)))), (.grd (.grd (.grd (.bin .leq (.ld (.fa 6 (.nck (.s 2)))) (.k (.int .i64 256))) true (.bin .gtr (.ld (.fa 6 (.nck (.s 2)))) (.k (.int .i64 0)))) false (.bin .eql (.ld (.fa 6 (.nck (.s 2)))) (.k (.int .i64 0)))) true (.un .not (.s 7)))]) .ret))))), (.s 6), 58, [0, 1, 2, 6, 7], [], []⟩
theorem x45 : fiOf Tryd.prog 45 [0, 1, 2, 6, 7] [] = some X45 := by kernel_rfl

-- (*swage/ir.sheet).reg
noncomputable def X46 : Fi := ⟨(.seq (.sets [(4, (.k (.bool false)))] []) (.seq (.sets [(4, (.and (.bin .geq (.s 1) (.k (.int .i64 0))) (.bin .lss (.s 1) (.ld (.fa 1 (.nck (.ld (.fa 0 (.nck (.s 0))))))))))] []) .ret)), (.s 4), 18, [0, 1, 4], [], []⟩
theorem x46 : fiOf Tryd.prog 46 [0, 1, 4] [] = some X46 := by kernel_rfl

-- slices.IndexFunc[[]swage/api.Meta,swage/api.Meta]
noncomputable def X47 : Fi := ⟨(.seq (.sets [(4, (.k (.int .i64 0)))] []) (.seq (.sets [(7, (.len (.s 0))), (8, (.k (.int .i64 0)))] []) (.seq (.block 0 (.loop (.seq (.sets [(9, (.bin .lss (.s 8) (.s 7)))] []) (.seq (.ite (.s 9) .nop (.exit 0)) (.seq (.block 1 (.seq (.sets [(5, (.s 8))] []) (.seq (.sets [(11, (.s 1)), (15, (.ldn 1 (.ix 1 (.s 0) (.s 5))))] []) (.seq (.act (some 16) (.callv 11 [(.tmp 15)])) (.ite (.s 16) (.seq (.sets [(4, (.s 5))] []) .ret) .nop))))) (.sets [(8, (.bin .add (.s 8) (.k (.int .i64 1))))] [])))))) (.seq (.sets [(4, (.k (.int .i64 (-1))))] []) .ret)))), (.s 4), 19, [0, 1, 4, 5, 7, 8, 9, 16], [], []⟩
theorem x47 : fiOf Tryd.prog 47 [0, 1, 4, 5, 7, 8, 9, 16] [] = some X47 := by kernel_rfl

-- (*swage/ir.sheet).part
noncomputable def X48 : Fi := ⟨(.seq (.sets [(6, (.k (.bool false)))] []) (.seq (.sets [(56, (.or (.or (.or (.bin .lss (.ld (.fa 0 (.nck (.s 1)))) (.k (.int .i64 0))) (.bin .geq (.ld (.fa 0 (.nck (.s 1)))) (.len (.ld (.fa 0 (.nck (.ld (.fa 1 (.nck (.s 0)))))))))) (.bin .lss (.ld (.fa 1 (.nck (.s 1)))) (.k (.int .i64 0)))) (.bin .geq (.ld (.fa 1 (.nck (.s 1)))) (.len (.ld (.fa 2 (.ix 3 (.ld (.fa 0 (.nck (.ld (.fa 1 (.nck (.s 0))))))) (.ld (.fa 0 (.nck (.s 1)))))))))))] []) (.seq (.ite (.s 56) (.seq (.sets [(6, (.k (.bool false)))] []) .ret) .nop) (.seq (.sets [(7, (.ld (.ix 1 (.ld (.ix 1 (.ld (.fa 2 (.nck (.s 0)))) (.ld (.fa 0 (.nck (.s 1)))))) (.ld (.fa 1 (.nck (.s 1)))))))] []) (.seq (.sp [.rd 73 (.s 7), .rd 74 (.bin .neq (.s 73) (.k (.int .i64 (-1)))), .rd 75 (.s 74), .rd 76 (.grd (.s 75) true (.s 1)), .rd 77 (.grd (.s 75) true (.nck (.s 76))), .rd 78 (.grd (.s 75) true (.fa 2 (.s 77))), .rd 79 (.grd (.s 75) true (.ld (.s 78))), .rd 80 (.grd (.s 75) true (.len (.s 79))), .rd 81 (.grd (.s 75) true (.s 0)), .rd 82 (.grd (.s 75) true (.nck (.s 81))), .rd 83 (.grd (.s 75) true (.fa 1 (.s 82))), .rd 84 (.grd (.s 75) true (.ld (.s 83))), .rd 85 (.grd (.s 75) true (.nck (.s 84))), .rd 86 (.grd (.s 75) true (.fa 0 (.s 85))), .rd 87 (.grd (.s 75) true (.ld (.s 86))), .rd 88 (.grd (.s 75) true (.s 1)), .rd 89 (.grd (.s 75) true (.nck (.s 88))), .rd 90 (.grd (.s 75) true (.fa 0 (.s 89))), .rd 91 (.grd (.s 75) true (.ld (.s 90))), .rd 92 (.grd (.s 75) true (.ix 3 (.s 87) (.s 91))), .rd 93 (.grd (.s 75) true (.fa 1 (.s 92))), .rd 94 (.grd (.s 75) true (.ld (.s 93))), .rd 95 (.grd (.s 75) true (.bin .eql (.s 80) (.s 94))), .rd 96 (.pick (.s 75) (.s 95) (.k (.bool false))), .rd 97 (.s 96), .rd 98 (.grd (.s 97) true (.s 1)), .rd 99 (.grd (.s 97) true (.nck (.s 98))), .rd 100 (.grd (.s 97) true (.fa 3 (.s 99))), .rd 101 (.grd (.s 97) true (.ld (.s 100))), .rd 102 (.grd (.s 97) true (.len (.s 101))), .rd 103 (.grd (.s 97) true (.s 7)), .rd 104 (.grd (.s 97) true (.s 2)), .rd 105 (.grd (.s 97) true (.bin .sub (.s 103) (.s 104))), .rd 106 (.grd (.s 97) true (.bin .eql (.s 102) (.s 105))), .rd 107 (.pick (.s 97) (.s 106) (.k (.bool false))), .rd 108 (.s 107), .rd 109 (.grd (.s 108) true (.s 1)), .rd 110 (.grd (.s 108) true (.nck (.s 109))), .rd 111 (.grd (.s 108) true (.fa 2 (.s 110))), .rd 112 (.grd (.s 108) true (.ld (.s 111))), .rd 113 (.grd (.s 108) true (.s 0)), .rd 114 (.grd (.s 108) true (.mkf (.func 62) (.cs (.s 113) .nl) .nl)), .ck 79 (.grd (.s 75) true (.ld (.s 78))), .ck 84 (.grd (.s 75) true (.ld (.s 83))), .ck 87 (.grd (.s 75) true (.ld (.s 86))), .ck 91 (.grd (.s 75) true (.ld (.s 90))), .ck 94 (.grd (.s 75) true (.ld (.s 93))), .ck 101 (.grd (.s 97) true (.ld (.s 100))), .ck 112 (.grd (.s 108) true (.ld (.s 111))), .hg (some 115) 108 true (.call 61 [(.tmp 112), (.tmp 114)]), .rd 116 (.grd (.s 108) true (.un .not (.s 115))), .rd 117 (.pick (.s 108) (.s 116) (.k (.bool false))), .rd 118 (.s 117), .rd 119 (.grd (.s 118) true (.s 1)), .rd 120 (.grd (.s 118) true (.nck (.s 119))), .rd 121 (.grd (.s 118) true (.fa 3 (.s 120))), .rd 122 (.grd (.s 118) true (.ld (.s 121))), .rd 123 (.grd (.s 118) true (.s 0)), .rd 124 (.grd (.s 118) true (.mkf (.func 62) (.cs (.s 123) .nl) .nl)), .ck 122 (.grd (.s 118) true (.ld (.s 121))), .hg (some 125) 118 true (.call 61 [(.tmp 122), (.tmp 124)]), .rd 126 (.grd (.s 118) true (.un .not (.s 125))), .rd 127 (.pick (.s 118) (.s 126) (.k (.bool false))), .rd 6 (.s 127)]) .ret))))), (.s 6), 128, [0, 1, 2, 6, 7, 56], [], []⟩
theorem x48 : fiOf Tryd.prog 48 [0, 1, 2, 6, 7, 56] [] = some X48 := by kernel_rfl

-- swage/frame.After
noncomputable def X49 : Fi := ⟨(.seq (.sets [(10, (.k (.bool false)))] []) (.seq (.sets [(10, (.and (.and (.and (.bin .gtr (.s 3) (.k (.int .i64 0))) (.bin .leq (.s 3) (.len (.ld (.fa 2 (.ix 3 (.ld (.fa 0 (.nck (.s 0)))) (.s 2))))))) (.bin .neq (.ld (.ix 1 (.ld (.ix 1 (.s 1) (.s 2))) (.bin .sub (.s 3) (.k (.int .i64 1))))) (.k (.int .i64 (-1))))) (.eqs false 2 (.ldn 2 (.ix 2 (.ld (.fa 2 (.ix 3 (.ld (.fa 0 (.nck (.s 0)))) (.s 2)))) (.bin .sub (.s 3) (.k (.int .i64 1))))) (.bld [(.int .i64 0), (.int .i64 0)] [(0, 1), (1, 1)] (.cs (.k (.int .i64 14)) (.cs (.s 4) .nl))))))] []) .ret)), (.s 10), 54, [0, 1, 2, 3, 4, 10], [], []⟩
theorem x49 : fiOf Tryd.prog 49 [0, 1, 2, 3, 4, 10] [] = some X49 := by kernel_rfl

-- (swage/fold.known).bin
noncomputable def X50 : Fi := ⟨(.seq (.act (some 3) (.box 37 (.tmp 1))) (.seq (.sets [(4, (.k (.int .i64 0))), (5, (.k (.bool false)))] []) (.seq (.sets [(14, (.s 0)), (16, (.ld (.fa 2 (.s 3))))] []) (.seq (.eff ⟨(some 17), (.lookup 89 (.tmp 14) (.tmp 16) .true), 96, "", #[], none⟩) (.seq (.sets [(6, (.ext 0 (.s 17))), (7, (.ext 1 (.s 17)))] []) (.seq (.sets [(21, (.s 0)), (23, (.ld (.fa 3 (.s 3))))] []) (.seq (.eff ⟨(some 24), (.lookup 89 (.tmp 21) (.tmp 23) .true), 96, "", #[], none⟩) (.seq (.sets [(8, (.ext 0 (.s 24))), (9, (.ext 1 (.s 24)))] []) (.seq (.sets [(32, (.or (.un .not (.s 7)) (.un .not (.s 9))))] []) (.seq (.ite (.s 32) (.seq (.sets [(4, (.k (.int .i64 0))), (5, (.k (.bool false)))] []) .ret) .nop) (.seq (.sets [(35, (.ld (.fa 4 (.s 3)))), (36, (.s 6)), (37, (.s 8))] []) (.seq (.act (some 38) (.call 63 [(.tmp 35), (.tmp 36), (.tmp 37)])) (.seq (.sets [(10, (.ext 0 (.s 38))), (11, (.ext 1 (.s 38)))] [(.ext 2 (.s 38))]) (.seq (.sets [(4, (.s 10)), (5, (.un .not (.s 11)))] []) .ret)))))))))))))), (.cs (.s 4) (.cs (.s 5) .nl)), 45, [0, 1, 3, 4, 5, 6, 7, 8, 9, 10, 11, 32], [], []⟩
theorem x50 : fiOf Tryd.prog 50 [0, 1, 3, 4, 5, 6, 7, 8, 9, 10, 11, 32] [] = some X50 := by kernel_rfl

-- slices.Clone[[]swage/api.Part,swage/api.Part]
noncomputable def X51 : Fi := ⟨(.seq (.sets [(2, (.k (.slice none 0 0)))] []) (.seq (.sets [(4, (.eqz false (.s 0) (.k (.slice none 0 0))))] []) (.seq (.ite (.s 4) (.seq (.sets [(2, (.k (.slice none 0 0)))] []) .ret) .nop) (.seq (.act (some 5) (.bslice 58 4 [] 0 [])) (.seq (.sets [(6, (.s 0))] []) (.seq (.act (some 7) (.app 58 4 64 (.tmp 5) (.tmp 6))) (.seq (.sets [(2, (.s 7))] []) .ret))))))), (.s 2), 8, [0, 2, 4], [], []⟩
theorem x51 : fiOf Tryd.prog 51 [0, 2, 4] [] = some X51 := by kernel_rfl

-- slices.Clone[[]swage/api.Src,swage/api.Src]
noncomputable def X52 : Fi := ⟨(.seq (.sets [(2, (.k (.slice none 0 0)))] []) (.seq (.sets [(4, (.eqz false (.s 0) (.k (.slice none 0 0))))] []) (.seq (.ite (.s 4) (.seq (.sets [(2, (.k (.slice none 0 0)))] []) .ret) .nop) (.seq (.act (some 5) (.bslice 55 2 [] 0 [])) (.seq (.sets [(6, (.s 0))] []) (.seq (.act (some 7) (.app 55 2 16 (.tmp 5) (.tmp 6))) (.seq (.sets [(2, (.s 7))] []) .ret))))))), (.s 2), 8, [0, 2, 4], [], []⟩
theorem x52 : fiOf Tryd.prog 52 [0, 2, 4] [] = some X52 := by kernel_rfl

-- slices.ContainsFunc[[]swage/api.Func,swage/api.Func]
noncomputable def X53 : Fi := ⟨(.seq (.sets [(4, (.k (.bool false)))] []) (.seq (.sets [(5, (.s 0)), (6, (.s 1))] []) (.seq (.act (some 7) (.call 64 [(.tmp 5), (.tmp 6)])) (.seq (.sets [(4, (.bin .geq (.s 7) (.k (.int .i64 0))))] []) .ret)))), (.s 4), 9, [0, 1, 4], [], []⟩
theorem x53 : fiOf Tryd.prog 53 [0, 1, 4] [] = some X53 := by kernel_rfl

-- swage/pack.not
noncomputable def X54 : Fi := ⟨(.seq (.act (some 1) (.box 43 (.tmp 0))) (.seq (.sets [(2, (.k (.bool false)))] []) (.seq (.sets [(3, (.k (.func (.func 65) #[] #[])))] []) (.seq (.sets [(36, (.or (.or (.or (.or (.or (.bin .lss (.ld (.fa 0 (.s 1))) (.k (.int .i64 0))) (.bin .gtr (.ld (.fa 0 (.s 1))) (.k (.int .i64 4)))) (.bin .lss (.ld (.fa 1 (.s 1))) (.ld (.fa 0 (.s 1))))) (.bin .gtr (.ld (.fa 1 (.s 1))) (.k (.int .i64 8)))) (.bin .lss (.len (.ld (.fa 2 (.s 1)))) (.k (.int .i64 1)))) (.bin .gtr (.len (.ld (.fa 2 (.s 1)))) (.k (.int .i64 64))))), (38, (.grd (.or (.or (.or (.or (.or (.bin .lss (.ld (.fa 0 (.s 1))) (.k (.int .i64 0))) (.bin .gtr (.ld (.fa 0 (.s 1))) (.k (.int .i64 4)))) (.bin .lss (.ld (.fa 1 (.s 1))) (.ld (.fa 0 (.s 1))))) (.bin .gtr (.ld (.fa 1 (.s 1))) (.k (.int .i64 8)))) (.bin .lss (.len (.ld (.fa 2 (.s 1)))) (.k (.int .i64 1)))) (.bin .gtr (.len (.ld (.fa 2 (.s 1)))) (.k (.int .i64 64)))) false (.ld (.fa 2 (.s 1))))), (39, (.grd (.or (.or (.or (.or (.or (.bin .lss (.ld (.fa 0 (.s 1))) (.k (.int .i64 0))) (.bin .gtr (.ld (.fa 0 (.s 1))) (.k (.int .i64 4)))) (.bin .lss (.ld (.fa 1 (.s 1))) (.ld (.fa 0 (.s 1))))) (.bin .gtr (.ld (.fa 1 (.s 1))) (.k (.int .i64 8)))) (.bin .lss (.len (.ld (.fa 2 (.s 1)))) (.k (.int .i64 1)))) (.bin .gtr (.len (.ld (.fa 2 (.s 1)))) (.k (.int .i64 64)))) false (.s 3)))] []) (.seq (.ite (.s 36) (.sets [(40, (.k (.tuple #[])))] []) (.act (some 40) (.call 67 [(.tmp 38), (.tmp 39)]))) (.seq (.sets [(2, (.pick (.s 36) (.k (.bool true)) (.s 40)))] []) .ret)))))), (.s 2), 42, [0, 1, 2, 3], [], []⟩
theorem x54 : fiOf Tryd.prog 54 [0, 1, 2, 3] [] = some X54 := by kernel_rfl

-- swage/flow.Reached
noncomputable def X55 : Fi := ⟨(.seq (.act (some 1) (.box 43 (.tmp 0))) (.seq (.sets [(2, (.k (.slice none 0 0))), (3, (.k (.int .i64 0)))] []) (.seq (.act (some 8) (.call 68 [(.tmp 1)])) (.seq (.sets [(9, (.un .not (.s 8)))] []) (.seq (.ite (.s 9) (.seq (.sets [(2, (.k (.slice none 0 0))), (3, (.k (.int .i64 400)))] []) .ret) .nop) (.seq (.sets [(12, (.len (.ld (.fa 2 (.s 1)))))] []) (.seq (.act (some 13) (.make 4 1 1 (.bool false) (.tmp 12) (.tmp 12))) (.seq (.sets [(4, (.s 13))] []) (.seq (.sets [(15, (.ix 1 (.s 4) (.k (.int .i64 0))))] []) (.seq (.act none (.store 1 (.tmp 15) (.const (.bool true)))) (.seq (.act (some 16) (.bslice 3 1 [(.int .i64 0)] 1 [(0, (.const (.int .i64 0)))])) (.seq (.sets [(5, (.s 16))] []) (.seq (.block 0 (.loop (.seq (.sets [(19, (.bin .gtr (.len (.s 5)) (.k (.int .i64 0))))] []) (.seq (.ite (.s 19) .nop (.exit 0)) (.seq (.block 1 (.seq (.sets [(24, (.ld (.ix 1 (.s 5) (.k (.int .i64 0)))))] []) (.seq (.act (some 25) (.call 69 [(.tmp 1), (.tmp 24)])) (.seq (.sets [(26, (.len (.s 25))), (27, (.k (.int .i64 0)))] []) (.block 2 (.loop (.seq (.sets [(28, (.bin .lss (.s 27) (.s 26)))] []) (.seq (.ite (.s 28) .nop (.exit 2)) (.seq (.block 3 (.seq (.sets [(7, (.ld (.ix 1 (.s 25) (.s 27))))] []) (.seq (.sets [(35, (.un .not (.ld (.ix 1 (.s 4) (.s 7)))))] []) (.ite (.s 35) (.seq (.sets [(38, (.ix 1 (.s 4) (.s 7)))] []) (.seq (.act none (.store 1 (.tmp 38) (.const (.bool true)))) (.seq (.sets [(39, (.s 5)), (40, (.s 7))] []) (.seq (.act (some 41) (.bslice 3 1 [(.int .i64 0)] 1 [(0, (.tmp 40))])) (.seq (.act (some 42) (.app 3 1 8 (.tmp 39) (.tmp 41))) (.sets [(5, (.s 42))] [])))))) .nop)))) (.sets [(27, (.bin .add (.s 27) (.k (.int .i64 1))))] [])))))))))) (.sets [(5, (.slc 1 (.s 5) (.cs (.k (.int .i64 1)) .nl) .nl .nl))] [])))))) (.seq (.sets [(2, (.s 4)), (3, (.k (.int .i64 0)))] []) .ret)))))))))))))), (.cs (.s 2) (.cs (.s 3) .nl)), 45, [0, 1, 2, 3, 4, 5, 7, 9, 19, 25, 26, 27, 28, 35], [16], []⟩
theorem x55 : fiOf Tryd.prog 55 [0, 1, 2, 3, 4, 5, 7, 9, 19, 25, 26, 27, 28, 35] [16] = some X55 := by kernel_rfl

-- swage/verify.plain
noncomputable def X56 : Fi := ⟨(.seq (.sets [(6, (.k .nilIface))] []) (.seq (.sets [(14, (.ld (.fa 2 (.nck (.s 1))))), (15, (.len (.ld (.fa 2 (.nck (.s 1)))))), (16, (.k (.int .i64 0)))] []) (.seq (.block 0 (.loop (.seq (.sets [(17, (.bin .lss (.s 16) (.s 15)))] []) (.seq (.ite (.s 17) .nop (.exit 0)) (.seq (.block 1 (.seq (.sets [(18, (.s 16)), (20, (.ldn 2 (.ix 2 (.s 14) (.s 16))))] []) (.seq (.act (some 8) (.alloc 40 (.agg #[(.int .i64 0), (.int .i64 0)]))) (.seq (.sets [(7, (.s 18))] []) (.seq (.act none (.store 2 (.tmp 8) (.tmp 20))) (.seq (.sets [(25, (.ld (.ix 1 (.s 2) (.s 7)))), (26, (.grd (.ld (.ix 1 (.s 2) (.s 7))) true (.s 0))), (27, (.grd (.ld (.ix 1 (.s 2) (.s 7))) true (.s 1))), (28, (.grd (.ld (.ix 1 (.s 2) (.s 7))) true (.ldn 2 (.s 8))))] []) (.seq (.ite (.s 25) (.act (some 29) (.call 70 [(.tmp 26), (.tmp 27), (.tmp 28)])) (.sets [(29, (.k (.tuple #[])))] [])) (.seq (.sets [(30, (.pick (.s 25) (.s 29) (.k (.bool false))))] []) (.ite (.s 30) (.seq (.sets [(33, (.bld [(.int .i64 0), .nilIface] [(0, 1), (1, 1)] (.cs (.s 7) (.cs (.ifc 30 (.k (.int .i64 501))) .nl))))] []) (.seq (.act (some 34) (.box 138 (.tmp 33))) (.seq (.sets [(6, (.ifc 136 (.s 34)))] []) .ret))) .nop))))))))) (.sets [(16, (.bin .add (.s 16) (.k (.int .i64 1))))] [])))))) (.seq (.sets [(9, (.bin .sub (.len (.ld (.fa 2 (.nck (.s 1))))) (.k (.int .i64 1))))] []) (.seq (.sets [(10, (.ld (.fa 0 (.ix 2 (.ld (.fa 2 (.nck (.s 1)))) (.s 9)))))] []) (.seq (.sets [(62, (.and (.and (.ld (.ix 1 (.s 2) (.s 9))) (.bin .neq (.s 10) (.k (.int .i64 12)))) (.bin .neq (.s 10) (.k (.int .i64 16)))))] []) (.seq (.ite (.s 62) (.seq (.sets [(65, (.bld [(.int .i64 0), .nilIface] [(0, 1), (1, 1)] (.cs (.s 9) (.cs (.ifc 30 (.k (.int .i64 503))) .nl))))] []) (.seq (.act (some 66) (.box 138 (.tmp 65))) (.seq (.sets [(6, (.ifc 136 (.s 66)))] []) .ret))) .nop) (.seq (.sets [(6, (.k .nilIface))] []) .ret)))))))), (.s 6), 68, [0, 1, 2, 6, 7, 8, 9, 10, 14, 15, 16, 17, 30, 62], [], []⟩
theorem x56 : fiOf Tryd.prog 56 [0, 1, 2, 6, 7, 8, 9, 10, 14, 15, 16, 17, 30, 62] [] = some X56 := by kernel_rfl

-- swage/verify.heights
noncomputable def X57 : Fi := ⟨(.seq (.sets [(4, (.k (.slice none 0 0))), (5, (.k .nilIface))] []) (.seq (.act (some 17) (.bslice 3 1 [(.int .i64 0)] 1 [(0, (.const (.int .i64 (-1))))])) (.seq (.sets [(22, (.len (.ld (.fa 2 (.nck (.s 1))))))] []) (.seq (.act (some 23) (.call 71 [(.tmp 17), (.tmp 22)])) (.seq (.sets [(6, (.s 23))] []) (.seq (.sets [(25, (.ix 1 (.s 6) (.k (.int .i64 0))))] []) (.seq (.act none (.store 1 (.tmp 25) (.const (.int .i64 0)))) (.seq (.act (some 26) (.bslice 3 1 [(.int .i64 0)] 1 [(0, (.const (.int .i64 0)))])) (.seq (.sets [(7, (.s 26))] []) (.seq (.block 0 (.loop (.seq (.sets [(29, (.bin .gtr (.len (.s 7)) (.k (.int .i64 0))))] []) (.seq (.ite (.s 29) .nop (.exit 0)) (.seq (.block 1 (.seq (.sets [(8, (.ld (.ix 1 (.s 7) (.k (.int .i64 0)))))] []) (.seq (.sp [.rd 36 (.s 1), .rd 37 (.nck (.s 36)), .rd 38 (.fa 2 (.s 37)), .rd 39 (.ld (.s 38)), .rd 40 (.s 8), .rd 41 (.ix 2 (.s 39) (.s 40)), .rd 42 (.ldn 2 (.s 41)), .rd 43 (.s 0), .rd 44 (.s 1), .rd 45 (.nck (.s 44)), .rd 46 (.fa 2 (.s 45)), .rd 47 (.ld (.s 46)), .rd 48 (.s 8), .rd 49 (.ix 2 (.s 47) (.s 48)), .rd 50 (.ldn 2 (.s 49)), .ck 39 (.ld (.s 38)), .ck 42 (.ldn 2 (.s 41)), .ck 47 (.ld (.s 46)), .ck 50 (.ldn 2 (.s 49)), .hd (some 51) (.call 73 [(.tmp 43), (.tmp 50)]), .ck 39 (.ld (.s 38)), .ck 42 (.ldn 2 (.s 41)), .hd (some 52) (.call 72 [(.tmp 42), (.tmp 51)]), .rd 35 (.s 52), .rd 53 (.ext 0 (.s 35)), .rd 54 (.ext 1 (.s 35)), .rd 55 (.ext 2 (.s 35)), .rd 9 (.s 53), .rd 10 (.s 54), .rd 11 (.s 55)]) (.seq (.sets [(12, (.bin .add (.bin .sub (.ld (.ix 1 (.s 6) (.s 8))) (.s 9)) (.s 10)))] []) (.seq (.sets [(73, (.or (.bin .lss (.ld (.ix 1 (.s 6) (.s 8))) (.s 9)) (.bin .gtr (.s 12) (.k (.int .i64 8)))))] []) (.seq (.ite (.s 73) (.seq (.sets [(76, (.bld [(.int .i64 0), .nilIface] [(0, 1), (1, 1)] (.cs (.s 8) (.cs (.ifc 30 (.k (.int .i64 502))) .nl))))] []) (.seq (.act (some 77) (.box 138 (.tmp 76))) (.seq (.sets [(4, (.k (.slice none 0 0))), (5, (.ifc 136 (.s 77)))] []) .ret))) .nop) (.seq (.sets [(82, (.ldn 3 (.nck (.s 1)))), (83, (.s 8))] []) (.seq (.act (some 84) (.call 74 [(.tmp 82), (.tmp 83)])) (.seq (.sets [(13, (.ext 0 (.s 84)))] [(.ext 1 (.s 84))]) (.seq (.sets [(87, (.s 13)), (88, (.len (.s 13))), (89, (.k (.int .i64 0)))] []) (.block 2 (.loop (.seq (.sets [(90, (.bin .lss (.s 89) (.s 88)))] []) (.seq (.ite (.s 90) .nop (.exit 2)) (.seq (.block 3 (.seq (.sets [(16, (.ld (.ix 1 (.s 87) (.s 89))))] []) (.seq (.sets [(96, (.ld (.ix 1 (.s 6) (.s 16))))] []) (.block 4 (.seq (.sets [(102, (.bin .eql (.s 96) (.k (.int .i64 (-1)))))] []) (.ite (.s 102) (.seq (.sets [(106, (.s 12)), (107, (.ix 1 (.s 6) (.s 16)))] []) (.seq (.act none (.store 1 (.tmp 107) (.tmp 106))) (.seq (.sets [(108, (.s 7)), (109, (.s 16))] []) (.seq (.act (some 110) (.bslice 3 1 [(.int .i64 0)] 1 [(0, (.tmp 109))])) (.seq (.act (some 111) (.app 3 1 8 (.tmp 108) (.tmp 110))) (.sets [(7, (.s 111))] [])))))) (.seq (.sets [(112, (.bin .eql (.s 96) (.s 12)))] []) (.ite (.s 112) .nop (.seq (.sets [(99, (.bld [(.int .i64 0), .nilIface] [(0, 1), (1, 1)] (.cs (.s 8) (.cs (.ifc 30 (.k (.int .i64 502))) .nl))))] []) (.seq (.act (some 100) (.box 138 (.tmp 99))) (.seq (.sets [(4, (.k (.slice none 0 0))), (5, (.ifc 136 (.s 100)))] []) .ret))))))))))) (.sets [(89, (.bin .add (.s 89) (.k (.int .i64 1))))] [])))))))))))))))) (.sets [(7, (.slc 1 (.s 7) (.cs (.k (.int .i64 1)) .nl) .nl .nl))] [])))))) (.seq (.sets [(4, (.s 6)), (5, (.k .nilIface))] []) .ret))))))))))), (.cs (.s 4) (.cs (.s 5) .nl)), 117, [0, 1, 4, 5, 6, 7, 8, 9, 10, 12, 13, 16, 29, 73, 87, 88, 89, 90, 96, 102, 112], [26], []⟩
theorem x57 : fiOf Tryd.prog 57 [0, 1, 4, 5, 6, 7, 8, 9, 10, 12, 13, 16, 29, 73, 87, 88, 89, 90, 96, 102, 112] [26] = some X57 := by kernel_rfl

-- swage/verify.told
noncomputable def X58 : Fi := ⟨(.seq (.sets [(2, (.k (.int .i64 0))), (3, (.k (.int .i64 0)))] []) (.seq (.act (some 4) (.alloc 136 (.pointer none))) (.seq (.act (some 5) (.alloc 30 (.int .i64 0))) (.seq (.sets [(6, (.s 0)), (7, (.ifc 146 (.s 4)))] []) (.seq (.act (some 8) (.call 75 [(.tmp 6), (.tmp 7)])) (.seq (.sets [(10, (.un .not (.s 8))), (11, (.grd (.un .not (.s 8)) false (.s 0))), (12, (.grd (.un .not (.s 8)) false (.ifc 147 (.s 5))))] []) (.seq (.ite (.s 10) (.sets [(13, (.k (.tuple #[])))] []) (.act (some 13) (.call 75 [(.tmp 11), (.tmp 12)]))) (.seq (.sets [(15, (.or (.s 10) (.un .not (.s 13))))] []) (.seq (.ite (.s 15) (.seq (.sets [(2, (.k (.int .i64 0))), (3, (.k (.int .i64 0)))] []) .ret) .nop) (.seq (.sets [(2, (.ld (.fa 0 (.nck (.ld (.s 4)))))), (3, (.ld (.s 5)))] []) .ret)))))))))), (.cs (.s 2) (.cs (.s 3) .nl)), 21, [0, 2, 3, 4, 5, 15], [], []⟩
theorem x58 : fiOf Tryd.prog 58 [0, 2, 3, 4, 5, 15] [] = some X58 := by kernel_rfl

-- swage/wrap.Is
noncomputable def X59 : Fi := ⟨(.seq (.sets [(2, (.k (.bool false)))] []) (.seq (.sets [(2, (.bin .eql (.cvt .i64 (.cvt .i32 (.s 0))) (.s 0)))] []) .ret)), (.s 2), 8, [0, 2], [], []⟩
theorem x59 : fiOf Tryd.prog 59 [0, 2] [] = some X59 := by kernel_rfl

-- swage/ir.Goes
noncomputable def X60 : Fi := ⟨(.seq (.sets [(2, (.k (.bool false)))] []) (.seq (.sets [(2, (.or (.bin .eql (.s 0) (.k (.int .i64 4))) (.bin .eql (.s 0) (.k (.int .i64 5)))))] []) .ret)), (.s 2), 9, [0, 2], [], []⟩
theorem x60 : fiOf Tryd.prog 60 [0, 2] [] = some X60 := by kernel_rfl

-- slices.ContainsFunc[[]swage/api.Src,swage/api.Src]
noncomputable def X61 : Fi := ⟨(.seq (.sets [(4, (.k (.bool false)))] []) (.seq (.sets [(5, (.s 0)), (6, (.s 1))] []) (.seq (.act (some 7) (.call 76 [(.tmp 5), (.tmp 6)])) (.seq (.sets [(4, (.bin .geq (.s 7) (.k (.int .i64 0))))] []) .ret)))), (.s 4), 9, [0, 1, 4], [], []⟩
theorem x61 : fiOf Tryd.prog 61 [0, 1, 4] [] = some X61 := by kernel_rfl

-- (*swage/ir.sheet).srcNot
noncomputable def X62 : Fi := ⟨(.seq (.act (some 3) (.box 55 (.tmp 1))) (.seq (.sets [(4, (.k (.bool false)))] []) (.seq (.sets [(6, (.ld (.fa 0 (.s 3))))] []) (.seq (.ite (.s 6) (.seq (.sets [(8, (.ld (.fa 1 (.s 3))))] []) (.seq (.act (some 9) (.call 59 [(.tmp 8)])) (.seq (.sets [(4, (.un .not (.s 9)))] []) .ret))) .nop) (.seq (.sets [(11, (.s 0)), (13, (.ld (.fa 1 (.s 3))))] []) (.seq (.act (some 14) (.call 46 [(.tmp 11), (.tmp 13)])) (.seq (.sets [(4, (.un .not (.s 14)))] []) .ret))))))), (.s 4), 16, [0, 1, 3, 4, 6], [], []⟩
theorem x62 : fiOf Tryd.prog 62 [0, 1, 3, 4, 6] [] = some X62 := by kernel_rfl

-- swage/wrap.Do
noncomputable def X63 : Fi := ⟨(.seq (.sets [(6, (.k (.int .i64 0))), (7, (.k (.bool false))), (8, (.k (.int .i64 0)))] []) (.seq (.sets [(16, (.or (.bin .lss (.s 0) (.k (.int .i64 3))) (.bin .gtr (.s 0) (.k (.int .i64 9))))), (17, (.grd (.or (.bin .lss (.s 0) (.k (.int .i64 3))) (.bin .gtr (.s 0) (.k (.int .i64 9)))) false (.s 1)))] []) (.seq (.ite (.s 16) (.sets [(18, (.k (.tuple #[])))] []) (.act (some 18) (.call 59 [(.tmp 17)]))) (.seq (.sets [(21, (.or (.s 16) (.un .not (.s 18)))), (22, (.grd (.or (.s 16) (.un .not (.s 18))) false (.s 2)))] []) (.seq (.ite (.s 21) (.sets [(23, (.k (.tuple #[])))] []) (.act (some 23) (.call 59 [(.tmp 22)]))) (.seq (.sets [(25, (.or (.s 21) (.un .not (.s 23))))] []) (.seq (.ite (.s 25) (.seq (.sets [(6, (.k (.int .i64 0))), (7, (.k (.bool false))), (8, (.k (.int .i64 100)))] []) .ret) .nop) (.seq (.sets [(9, (.k (.int .i64 0)))] []) (.seq (.sets [(26, (.s 0))] []) (.seq (.block 0 (.seq (.block 6 (.seq (.block 5 (.seq (.block 4 (.seq (.block 3 (.seq (.block 2 (.seq (.block 1 (.seq (.sets [(27, (.bin .eql (.s 26) (.k (.int .i64 4))))] []) (.seq (.ite (.s 27) (.exit 1) .nop) (.seq (.sets [(29, (.bin .eql (.s 26) (.k (.int .i64 3))))] []) (.seq (.ite (.s 29) (.exit 2) .nop) (.seq (.sets [(31, (.bin .eql (.s 26) (.k (.int .i64 5))))] []) (.seq (.ite (.s 31) (.exit 3) .nop) (.seq (.sets [(33, (.or (.bin .eql (.s 26) (.k (.int .i64 6))) (.bin .eql (.s 26) (.k (.int .i64 7)))))] []) (.seq (.ite (.s 33) (.exit 4) .nop) (.seq (.sets [(36, (.bin .eql (.s 26) (.k (.int .i64 8))))] []) (.seq (.ite (.s 36) (.exit 5) .nop) (.seq (.sets [(38, (.bin .eql (.s 26) (.k (.int .i64 9))))] []) (.seq (.ite (.s 38) (.exit 6) .nop) (.exit 0)))))))))))))) (.sets [(2, (.un .neg (.s 2)))] []))) (.seq (.sets [(9, (.bin .add (.s 1) (.s 2)))] []) (.exit 0)))) (.seq (.sets [(9, (.bin .mul (.s 1) (.s 2)))] []) (.exit 0)))) (.seq (.sets [(49, (.bin .eql (.s 2) (.k (.int .i64 0))))] []) (.seq (.ite (.s 49) (.seq (.sets [(6, (.k (.int .i64 0))), (7, (.k (.bool true))), (8, (.k (.int .i64 0)))] []) .ret) .nop) (.seq (.sets [(9, (.bin .quo (.s 1) (.s 2)))] []) (.seq (.sets [(54, (.bin .eql (.s 0) (.k (.int .i64 7))))] []) (.seq (.ite (.s 54) (.sets [(9, (.bin .rem (.s 1) (.s 2)))] []) .nop) (.exit 0)))))))) (.seq (.sets [(60, (.bin .eql (.s 1) (.s 2)))] []) (.seq (.act (some 61) (.call 77 [(.tmp 60)])) (.seq (.sets [(9, (.s 61))] []) (.exit 0)))))) (.seq (.sets [(64, (.bin .lss (.s 1) (.s 2)))] []) (.seq (.act (some 65) (.call 77 [(.tmp 64)])) (.seq (.sets [(9, (.s 65))] []) (.exit 0)))))) (.seq (.sets [(66, (.s 9))] []) (.seq (.act (some 67) (.call 78 [(.tmp 66)])) (.seq (.sets [(6, (.s 67)), (7, (.k (.bool false))), (8, (.k (.int .i64 0)))] []) .ret))))))))))))), (.cs (.s 6) (.cs (.s 7) (.cs (.s 8) .nl))), 68, [0, 1, 2, 6, 7, 8, 9, 25, 26, 27, 29, 31, 33, 36, 38, 49, 54], [], []⟩
theorem x63 : fiOf Tryd.prog 63 [0, 1, 2, 6, 7, 8, 9, 25, 26, 27, 29, 31, 33, 36, 38, 49, 54] [] = some X63 := by kernel_rfl

-- slices.IndexFunc[[]swage/api.Func,swage/api.Func]
noncomputable def X64 : Fi := ⟨(.seq (.sets [(4, (.k (.int .i64 0)))] []) (.seq (.sets [(7, (.len (.s 0))), (8, (.k (.int .i64 0)))] []) (.seq (.block 0 (.loop (.seq (.sets [(9, (.bin .lss (.s 8) (.s 7)))] []) (.seq (.ite (.s 9) .nop (.exit 0)) (.seq (.block 1 (.seq (.sets [(5, (.s 8))] []) (.seq (.sets [(11, (.s 1)), (15, (.ldn 3 (.ix 3 (.s 0) (.s 5))))] []) (.seq (.act (some 16) (.callv 11 [(.tmp 15)])) (.ite (.s 16) (.seq (.sets [(4, (.s 5))] []) .ret) .nop))))) (.sets [(8, (.bin .add (.s 8) (.k (.int .i64 1))))] [])))))) (.seq (.sets [(4, (.k (.int .i64 (-1))))] []) .ret)))), (.s 4), 19, [0, 1, 4, 5, 7, 8, 9, 16], [], []⟩
theorem x64 : fiOf Tryd.prog 64 [0, 1, 4, 5, 7, 8, 9, 16] [] = some X64 := by kernel_rfl

-- swage/pack.not$1
noncomputable def X65 : Fi := ⟨(.seq (.act (some 1) (.box 40 (.tmp 0))) (.seq (.sets [(2, (.k (.bool false)))] []) (.seq (.sets [(3, (.ldn 2 (.s 1)))] []) (.seq (.act (some 4) (.call 66 [(.tmp 3)])) (.seq (.sets [(2, (.un .not (.s 4)))] []) .ret))))), (.s 2), 6, [0, 1, 2], [], []⟩
theorem x65 : fiOf Tryd.prog 65 [0, 1, 2] [] = some X65 := by kernel_rfl

-- swage/ins.May
noncomputable def X66 : Fi := ⟨(.seq (.act (some 1) (.box 40 (.tmp 0))) (.seq (.sets [(2, (.k (.bool false)))] []) (.seq (.block 0 (.seq (.sets [(3, (.or (.bin .lss (.ld (.fa 0 (.s 1))) (.k (.int .i64 0))) (.bin .gtr (.ld (.fa 0 (.s 1))) (.k (.int .i64 16)))))] []) (.ite (.s 3) (.seq (.sets [(2, (.k (.bool false)))] []) .ret) (.seq (.sets [(12, (.bin .eql (.ld (.fa 0 (.s 1))) (.k (.int .i64 0))))] []) (.ite (.s 12) (.seq (.sets [(17, (.ld (.fa 1 (.s 1))))] []) (.seq (.act (some 18) (.call 59 [(.tmp 17)])) (.seq (.sets [(2, (.s 18))] []) .ret))) .nop))))) (.seq (.sp [.rd 19 (.fa 1 (.s 1)), .rd 20 (.ld (.s 19)), .rd 21 (.bin .geq (.s 20) (.k (.int .i64 0))), .rd 22 (.s 21), .rd 23 (.grd (.s 22) true (.fa 1 (.s 1))), .rd 24 (.grd (.s 22) true (.ld (.s 23))), .rd 25 (.grd (.s 22) true (.fa 0 (.s 1))), .rd 26 (.grd (.s 22) true (.ld (.s 25))), .ck 20 (.ld (.s 19)), .ck 24 (.grd (.s 22) true (.ld (.s 23))), .ck 26 (.grd (.s 22) true (.ld (.s 25))), .hg (some 27) 22 true (.call 79 [(.tmp 26)]), .rd 28 (.grd (.s 22) true (.bin .lss (.s 24) (.s 27))), .rd 29 (.pick (.s 22) (.s 28) (.k (.bool false))), .rd 2 (.s 29), .ck 24 (.grd (.s 22) true (.ld (.s 23)))]) .ret)))), (.s 2), 30, [0, 1, 2, 3, 12], [], []⟩
theorem x66 : fiOf Tryd.prog 66 [0, 1, 2, 3, 12] [] = some X66 := by kernel_rfl

-- slices.ContainsFunc[[]swage/api.Ins,swage/api.Ins]
noncomputable def X67 : Fi := ⟨(.seq (.sets [(4, (.k (.bool false)))] []) (.seq (.sets [(5, (.s 0)), (6, (.s 1))] []) (.seq (.act (some 7) (.call 80 [(.tmp 5), (.tmp 6)])) (.seq (.sets [(4, (.bin .geq (.s 7) (.k (.int .i64 0))))] []) .ret)))), (.s 4), 9, [0, 1, 4], [], []⟩
theorem x67 : fiOf Tryd.prog 67 [0, 1, 4] [] = some X67 := by kernel_rfl

-- swage/flow.may
noncomputable def X68 : Fi := ⟨(.seq (.sets [(2, (.k (.bool false)))] []) (.seq (.sets [(3, (.k (.func (.func 81) #[] #[])))] []) (.seq (.sets [(18, (.and (.bin .geq (.len (.ld (.fa 2 (.nck (.s 0))))) (.k (.int .i64 1))) (.bin .leq (.len (.ld (.fa 2 (.nck (.s 0))))) (.k (.int .i64 64))))), (22, (.grd (.and (.bin .geq (.len (.ld (.fa 2 (.nck (.s 0))))) (.k (.int .i64 1))) (.bin .leq (.len (.ld (.fa 2 (.nck (.s 0))))) (.k (.int .i64 64)))) true (.ld (.fa 2 (.nck (.s 0)))))), (23, (.grd (.and (.bin .geq (.len (.ld (.fa 2 (.nck (.s 0))))) (.k (.int .i64 1))) (.bin .leq (.len (.ld (.fa 2 (.nck (.s 0))))) (.k (.int .i64 64)))) true (.s 3)))] []) (.seq (.ite (.s 18) (.act (some 24) (.call 67 [(.tmp 22), (.tmp 23)])) (.sets [(24, (.k (.tuple #[])))] [])) (.seq (.sets [(2, (.and (.s 18) (.un .not (.s 24))))] []) .ret))))), (.s 2), 27, [0, 2, 3], [], []⟩
theorem x68 : fiOf Tryd.prog 68 [0, 2, 3] [] = some X68 := by kernel_rfl

-- swage/flow.next
noncomputable def X69 : Fi := ⟨(.seq (.act (some 2) (.box 116 (.tmp 0))) (.seq (.sets [(4, (.k (.slice none 0 0)))] []) (.seq (.sets [(14, (.ldn 2 (.ix 2 (.ld (.fa 2 (.nck (.ld (.s 2))))) (.s 1))))] []) (.seq (.act (some 5) (.var 40 2 (.tmp 14))) (.seq (.sets [(6, (.k (.slice none 0 0)))] []) (.seq (.sets [(16, (.ld (.fa 0 (.s 5))))] []) (.seq (.block 0 (.seq (.sets [(20, (.bin .eql (.s 16) (.k (.int .i64 16))))] []) (.ite (.s 20) .nop (.seq (.sets [(22, (.bin .eql (.s 16) (.k (.int .i64 12))))] []) (.ite (.s 22) (.seq (.sets [(25, (.ld (.fa 1 (.s 5))))] []) (.seq (.act (some 26) (.bslice 3 1 [(.int .i64 0)] 1 [(0, (.tmp 25))])) (.sets [(6, (.s 26))] []))) (.seq (.sets [(27, (.bin .eql (.s 16) (.k (.int .i64 13))))] []) (.ite (.s 27) (.seq (.sets [(30, (.bin .add (.s 1) (.k (.int .i64 1)))), (32, (.ld (.fa 1 (.s 5))))] []) (.seq (.act (some 33) (.bslice 3 1 [(.int .i64 0), (.int .i64 0)] 2 [(0, (.tmp 30)), (1, (.tmp 32))])) (.sets [(6, (.s 33))] []))) (.seq (.sets [(18, (.bin .add (.s 1) (.k (.int .i64 1))))] []) (.seq (.act (some 19) (.bslice 3 1 [(.int .i64 0)] 1 [(0, (.tmp 18))])) (.sets [(6, (.s 19))] [])))))))))) (.seq (.sets [(7, (.mkf (.func 82) .nl (.cs (.s 2) .nl)))] []) (.seq (.sets [(35, (.s 6)), (36, (.s 7))] []) (.seq (.act (some 37) (.call 84 [(.tmp 35), (.tmp 36)])) (.seq (.act (some 38) (.call 83 [(.tmp 37)])) (.seq (.sets [(4, (.s 38))] []) .ret)))))))))))), (.s 4), 39, [0, 1, 2, 4, 5, 6, 7, 16, 20, 22, 27], [19, 26, 33], []⟩
theorem x69 : fiOf Tryd.prog 69 [0, 1, 2, 4, 5, 6, 7, 16, 20, 22, 27] [19, 26, 33] = some X69 := by kernel_rfl

-- swage/verify.outside
noncomputable def X70 : Fi := ⟨(.seq (.act (some 5) (.box 40 (.tmp 2))) (.seq (.sets [(6, (.k (.bool false)))] []) (.seq (.sets [(8, (.ld (.fa 0 (.s 5))))] []) (.seq (.block 0 (.seq (.sets [(9, (.or (.bin .eql (.s 8) (.k (.int .i64 1))) (.bin .eql (.s 8) (.k (.int .i64 2)))))] []) (.ite (.s 9) (.seq (.sets [(6, (.bin .geq (.ld (.fa 1 (.s 5))) (.ld (.fa 1 (.nck (.s 1))))))] []) .ret) (.seq (.sets [(19, (.or (.bin .eql (.s 8) (.k (.int .i64 12))) (.bin .eql (.s 8) (.k (.int .i64 13)))))] []) (.ite (.s 19) (.seq (.sets [(6, (.bin .geq (.ld (.fa 1 (.s 5))) (.len (.ld (.fa 2 (.nck (.s 1)))))))] []) .ret) (.seq (.sets [(30, (.bin .eql (.s 8) (.k (.int .i64 14))))] []) (.ite (.s 30) (.seq (.sets [(6, (.bin .geq (.ld (.fa 1 (.s 5))) (.len (.ld (.fa 0 (.nck (.s 0)))))))] []) .ret) .nop))))))) (.seq (.sets [(6, (.k (.bool false)))] []) .ret))))), (.s 6), 40, [0, 1, 2, 5, 6, 8, 9, 19, 30], [], []⟩
theorem x70 : fiOf Tryd.prog 70 [0, 1, 2, 5, 6, 8, 9, 19, 30] [] = some X70 := by kernel_rfl

-- slices.Repeat[[]int,int]
noncomputable def X71 : Fi := ⟨(.seq (.sets [(4, (.k (.slice none 0 0)))] []) (.seq (.sets [(10, (.bin .lss (.s 1) (.k (.int .i64 0))))] []) (.seq (.ite (.s 10) (.seq (.sets [(11, (.ifc 9 (.k (.string ⟨#[99, 97, 110, 110, 111, 116, 32, 98, 101, 32, 110, 101, 103, 97, 116, 105, 118, 101]⟩))))] []) (.seq (.eff ⟨none, (.panic (.tmp 11)), 0, "", #[], none⟩) (.sets [] []))) .nop) (.seq (.sets [(15, (.cvt .u64 (.len (.s 0)))), (17, (.cvt .u64 (.s 1)))] []) (.seq (.act (some 18) (.call 85 [(.tmp 15), (.tmp 17)])) (.seq (.sets [(5, (.ext 0 (.s 18))), (6, (.ext 1 (.s 18)))] []) (.seq (.sets [(26, (.or (.bin .gtr (.s 5) (.k (.int .u64 0))) (.bin .gtr (.s 6) (.k (.int .u64 9223372036854775807)))))] []) (.seq (.ite (.s 26) (.seq (.sets [(27, (.ifc 9 (.k (.string ⟨#[116, 104, 101, 32, 114, 101, 115, 117, 108, 116, 32, 111, 102, 32, 40, 108, 101, 110, 40, 120, 41, 32, 42, 32, 99, 111, 117, 110, 116, 41, 32, 111, 118, 101, 114, 102, 108, 111, 119, 115]⟩))))] []) (.seq (.eff ⟨none, (.panic (.tmp 27)), 0, "", #[], none⟩) (.sets [] []))) .nop) (.seq (.sets [(29, (.cvt .i64 (.s 6)))] []) (.seq (.act (some 30) (.make 3 1 8 (.int .i64 0) (.tmp 29) (.tmp 29))) (.seq (.sets [(7, (.s 30))] []) (.seq (.sets [(31, (.s 7)), (32, (.s 0))] []) (.seq (.act (some 33) (.cpy 1 (.tmp 31) (.tmp 32))) (.seq (.sets [(8, (.s 33))] []) (.seq (.block 0 (.loop (.seq (.sets [(37, (.bin .lss (.s 8) (.len (.s 7))))] []) (.seq (.ite (.s 37) .nop (.exit 0)) (.block 1 (.sp [.rd 38 (.s 8), .rd 39 (.s 7), .rd 40 (.s 8), .rd 41 (.slc 1 (.s 39) (.cs (.s 40) .nl) .nl .nl), .rd 42 (.s 7), .rd 43 (.s 8), .rd 44 (.slc 1 (.s 42) .nl (.cs (.s 43) .nl) .nl), .hd (some 45) (.cpy 1 (.tmp 41) (.tmp 44)), .rd 46 (.bin .add (.s 38) (.s 45)), .rd 8 (.s 46)])))))) (.seq (.sets [(4, (.s 7))] []) .ret)))))))))))))))), (.s 4), 48, [0, 1, 4, 5, 6, 7, 8, 10, 26, 37], [], []⟩
theorem x71 : fiOf Tryd.prog 71 [0, 1, 4, 5, 6, 7, 8, 10, 26, 37] [] = some X71 := by kernel_rfl

-- swage/ins.Effect
noncomputable def X72 : Fi := ⟨(.seq (.act (some 2) (.box 40 (.tmp 0))) (.seq (.sets [(4, (.k (.int .i64 0))), (5, (.k (.int .i64 0))), (6, (.k (.int .i64 0)))] []) (.seq (.sets [(9, (.ldn 2 (.s 2)))] []) (.seq (.act (some 10) (.call 66 [(.tmp 9)])) (.seq (.sets [(19, (.or (.or (.un .not (.s 10)) (.bin .lss (.s 1) (.k (.int .i64 0)))) (.bin .gtr (.s 1) (.k (.int .i64 4)))))] []) (.seq (.ite (.s 19) (.seq (.sets [(4, (.k (.int .i64 0))), (5, (.k (.int .i64 0))), (6, (.k (.int .i64 200)))] []) .ret) .nop) (.seq (.sets [(7, (.k (.int .i64 0))), (8, (.k (.int .i64 0)))] []) (.seq (.sets [(21, (.ld (.fa 0 (.s 2))))] []) (.seq (.block 0 (.seq (.block 5 (.seq (.block 4 (.seq (.block 3 (.seq (.block 2 (.seq (.block 1 (.seq (.sets [(22, (.or (.bin .eql (.s 21) (.k (.int .i64 0))) (.bin .eql (.s 21) (.k (.int .i64 1)))))] []) (.seq (.ite (.s 22) (.exit 1) .nop) (.seq (.sets [(25, (.or (.bin .eql (.s 21) (.k (.int .i64 3))) (.or (.bin .eql (.s 21) (.k (.int .i64 4))) (.or (.bin .eql (.s 21) (.k (.int .i64 5))) (.or (.bin .eql (.s 21) (.k (.int .i64 6))) (.or (.bin .eql (.s 21) (.k (.int .i64 7))) (.or (.bin .eql (.s 21) (.k (.int .i64 8))) (.bin .eql (.s 21) (.k (.int .i64 9))))))))))] []) (.seq (.ite (.s 25) (.exit 2) .nop) (.seq (.sets [(33, (.or (.bin .eql (.s 21) (.k (.int .i64 2))) (.or (.bin .eql (.s 21) (.k (.int .i64 11))) (.or (.bin .eql (.s 21) (.k (.int .i64 13))) (.or (.bin .eql (.s 21) (.k (.int .i64 15))) (.bin .eql (.s 21) (.k (.int .i64 16))))))))] []) (.seq (.ite (.s 33) (.exit 3) .nop) (.seq (.sets [(39, (.bin .eql (.s 21) (.k (.int .i64 10))))] []) (.seq (.ite (.s 39) (.exit 4) .nop) (.seq (.sets [(41, (.bin .eql (.s 21) (.k (.int .i64 14))))] []) (.seq (.ite (.s 41) (.exit 5) .nop) (.exit 0)))))))))))) (.seq (.sets [(8, (.k (.int .i64 1)))] []) (.exit 0)))) (.seq (.sets [(8, (.k (.int .i64 1)))] []) (.sets [(7, (.bin .add (.s 7) (.k (.int .i64 1))))] [])))) (.seq (.sets [(7, (.bin .add (.s 7) (.k (.int .i64 1))))] []) (.exit 0)))) (.seq (.sets [(7, (.k (.int .i64 1))), (8, (.k (.int .i64 2)))] []) (.exit 0)))) (.seq (.sets [(7, (.s 1)), (8, (.k (.int .i64 1)))] []) (.exit 0)))) (.seq (.sets [(4, (.s 7)), (5, (.s 8)), (6, (.k (.int .i64 0)))] []) .ret)))))))))), (.cs (.s 4) (.cs (.s 5) (.cs (.s 6) .nl))), 50, [0, 1, 2, 4, 5, 6, 7, 8, 19, 21, 22, 25, 33, 39, 41], [], []⟩
theorem x72 : fiOf Tryd.prog 72 [0, 1, 2, 4, 5, 6, 7, 8, 19, 21, 22, 25, 33, 39, 41] [] = some X72 := by kernel_rfl

-- swage/verify.args
noncomputable def X73 : Fi := ⟨(.seq (.act (some 3) (.box 40 (.tmp 1))) (.seq (.sets [(4, (.k (.int .i64 0)))] []) (.seq (.sets [(7, (.bin .eql (.ld (.fa 0 (.s 3))) (.k (.int .i64 14))))] []) (.seq (.ite (.s 7) (.seq (.sets [(4, (.ld (.fa 0 (.ix 3 (.ld (.fa 0 (.nck (.s 0)))) (.ld (.fa 1 (.s 3)))))))] []) .ret) .nop) (.seq (.sets [(4, (.k (.int .i64 0)))] []) .ret))))), (.s 4), 17, [0, 1, 3, 4, 7], [], []⟩
theorem x73 : fiOf Tryd.prog 73 [0, 1, 3, 4, 7] [] = some X73 := by kernel_rfl

-- swage/flow.Next
noncomputable def X74 : Fi := ⟨(.seq (.act (some 2) (.box 43 (.tmp 0))) (.seq (.sets [(4, (.k (.slice none 0 0))), (5, (.k (.int .i64 0)))] []) (.seq (.act (some 6) (.call 68 [(.tmp 2)])) (.seq (.sets [(18, (.or (.or (.un .not (.s 6)) (.bin .lss (.s 1) (.k (.int .i64 0)))) (.bin .geq (.s 1) (.len (.ld (.fa 2 (.s 2)))))))] []) (.seq (.ite (.s 18) (.seq (.sets [(4, (.k (.slice none 0 0))), (5, (.k (.int .i64 400)))] []) .ret) .nop) (.seq (.sets [(19, (.s 1))] []) (.seq (.act (some 20) (.call 69 [(.tmp 2), (.tmp 19)])) (.seq (.sets [(4, (.s 20)), (5, (.k (.int .i64 0)))] []) .ret)))))))), (.cs (.s 4) (.cs (.s 5) .nl)), 21, [0, 1, 2, 4, 5, 18], [], []⟩
theorem x74 : fiOf Tryd.prog 74 [0, 1, 2, 4, 5, 18] [] = some X74 := by kernel_rfl

-- slices.IndexFunc[[]swage/api.Src,swage/api.Src]
noncomputable def X76 : Fi := ⟨(.seq (.sets [(4, (.k (.int .i64 0)))] []) (.seq (.sets [(7, (.len (.s 0))), (8, (.k (.int .i64 0)))] []) (.seq (.block 0 (.loop (.seq (.sets [(9, (.bin .lss (.s 8) (.s 7)))] []) (.seq (.ite (.s 9) .nop (.exit 0)) (.seq (.block 1 (.seq (.sets [(5, (.s 8))] []) (.seq (.sets [(11, (.s 1)), (15, (.ldn 2 (.ix 2 (.s 0) (.s 5))))] []) (.seq (.act (some 16) (.callv 11 [(.tmp 15)])) (.ite (.s 16) (.seq (.sets [(4, (.s 5))] []) .ret) .nop))))) (.sets [(8, (.bin .add (.s 8) (.k (.int .i64 1))))] [])))))) (.seq (.sets [(4, (.k (.int .i64 (-1))))] []) .ret)))), (.s 4), 19, [0, 1, 4, 5, 7, 8, 9, 16], [], []⟩
theorem x76 : fiOf Tryd.prog 76 [0, 1, 4, 5, 7, 8, 9, 16] [] = some X76 := by kernel_rfl

-- swage/wrap.told
noncomputable def X77 : Fi := ⟨(.seq (.sets [(2, (.k (.int .i64 0)))] []) (.seq (.sets [(3, (.s 0))] []) (.seq (.ite (.s 3) (.seq (.sets [(2, (.k (.int .i64 1)))] []) .ret) .nop) (.seq (.sets [(2, (.k (.int .i64 0)))] []) .ret)))), (.s 2), 4, [0, 2, 3], [], []⟩
theorem x77 : fiOf Tryd.prog 77 [0, 2, 3] [] = some X77 := by kernel_rfl

-- swage/wrap.Wrap
noncomputable def X78 : Fi := ⟨(.seq (.sets [(2, (.k (.int .i64 0)))] []) (.seq (.sets [(2, (.cvt .i64 (.cvt .i32 (.s 0))))] []) .ret)), (.s 2), 6, [0, 2], [], []⟩
theorem x78 : fiOf Tryd.prog 78 [0, 2] [] = some X78 := by kernel_rfl

-- swage/ins.below
noncomputable def X79 : Fi := ⟨(.seq (.sets [(2, (.k (.int .i64 0)))] []) (.seq (.sets [(3, (.s 0))] []) (.seq (.block 0 (.seq (.sets [(4, (.or (.bin .eql (.s 3) (.k (.int .i64 1))) (.bin .eql (.s 3) (.k (.int .i64 2)))))] []) (.ite (.s 4) (.seq (.sets [(2, (.k (.int .i64 8)))] []) .ret) (.seq (.sets [(7, (.or (.bin .eql (.s 3) (.k (.int .i64 12))) (.bin .eql (.s 3) (.k (.int .i64 13)))))] []) (.ite (.s 7) (.seq (.sets [(2, (.k (.int .i64 64)))] []) .ret) (.seq (.sets [(10, (.bin .eql (.s 3) (.k (.int .i64 14))))] []) (.ite (.s 10) (.seq (.sets [(2, (.k (.int .i64 8)))] []) .ret) .nop))))))) (.seq (.sets [(2, (.k (.int .i64 1)))] []) .ret)))), (.s 2), 12, [0, 2, 3, 4, 7, 10], [], []⟩
theorem x79 : fiOf Tryd.prog 79 [0, 2, 3, 4, 7, 10] [] = some X79 := by kernel_rfl

-- slices.IndexFunc[[]swage/api.Ins,swage/api.Ins]
noncomputable def X80 : Fi := ⟨(.seq (.sets [(4, (.k (.int .i64 0)))] []) (.seq (.sets [(7, (.len (.s 0))), (8, (.k (.int .i64 0)))] []) (.seq (.block 0 (.loop (.seq (.sets [(9, (.bin .lss (.s 8) (.s 7)))] []) (.seq (.ite (.s 9) .nop (.exit 0)) (.seq (.block 1 (.seq (.sets [(5, (.s 8))] []) (.seq (.sets [(11, (.s 1)), (15, (.ldn 2 (.ix 2 (.s 0) (.s 5))))] []) (.seq (.act (some 16) (.callv 11 [(.tmp 15)])) (.ite (.s 16) (.seq (.sets [(4, (.s 5))] []) .ret) .nop))))) (.sets [(8, (.bin .add (.s 8) (.k (.int .i64 1))))] [])))))) (.seq (.sets [(4, (.k (.int .i64 (-1))))] []) .ret)))), (.s 4), 19, [0, 1, 4, 5, 7, 8, 9, 16], [], []⟩
theorem x80 : fiOf Tryd.prog 80 [0, 1, 4, 5, 7, 8, 9, 16] [] = some X80 := by kernel_rfl

-- swage/flow.may$1
noncomputable def X81 : Fi := ⟨(.seq (.act (some 1) (.box 40 (.tmp 0))) (.seq (.sets [(2, (.k (.bool false)))] []) (.seq (.sets [(3, (.ldn 2 (.s 1)))] []) (.seq (.act (some 4) (.call 66 [(.tmp 3)])) (.seq (.sets [(2, (.un .not (.s 4)))] []) .ret))))), (.s 2), 6, [0, 1, 2], [], []⟩
theorem x81 : fiOf Tryd.prog 81 [0, 1, 2] [] = some X81 := by kernel_rfl

-- swage/flow.next$1
noncomputable def X82 : Fi := ⟨(.seq (.sets [(3, (.k (.bool false)))] []) (.seq (.sets [(3, (.bin .geq (.s 0) (.len (.ld (.fa 2 (.nck (.ld (.s 1))))))))] []) .ret)), (.s 3), 11, [0, 1, 3], [], []⟩
theorem x82 : fiOf Tryd.prog 82 [0, 1, 3] [] = some X82 := by kernel_rfl

-- slices.Compact[[]int,int]
noncomputable def X83 : Fi := ⟨(.seq (.sets [(2, (.k (.slice none 0 0)))] []) (.seq (.sets [(8, (.bin .lss (.len (.s 0)) (.k (.int .i64 2))))] []) (.seq (.ite (.s 8) (.seq (.sets [(2, (.s 0))] []) .ret) .nop) (.seq (.sets [(3, (.k (.int .i64 1)))] []) (.seq (.block 0 (.loop (.seq (.sets [(13, (.bin .lss (.s 3) (.len (.s 0))))] []) (.seq (.ite (.s 13) .nop (.exit 0)) (.seq (.block 1 (.seq (.sets [(25, (.bin .eql (.ld (.ix 1 (.s 0) (.s 3))) (.ld (.ix 1 (.s 0) (.bin .sub (.s 3) (.k (.int .i64 1)))))))] []) (.ite (.s 25) (.seq (.sets [(4, (.slc 1 (.s 0) (.cs (.s 3) .nl) .nl .nl))] []) (.seq (.sets [(5, (.k (.int .i64 1)))] []) (.seq (.block 2 (.loop (.seq (.sets [(32, (.bin .lss (.s 5) (.len (.s 4))))] []) (.seq (.ite (.s 32) .nop (.exit 2)) (.seq (.block 3 (.seq (.sets [(44, (.bin .neq (.ld (.ix 1 (.s 4) (.s 5))) (.ld (.ix 1 (.s 4) (.bin .sub (.s 5) (.k (.int .i64 1)))))))] []) (.ite (.s 44) (.seq (.sets [(50, (.ld (.ix 1 (.s 4) (.s 5)))), (51, (.ix 1 (.s 0) (.s 3)))] []) (.seq (.act none (.store 1 (.tmp 51) (.tmp 50))) (.sets [(3, (.bin .add (.s 3) (.k (.int .i64 1))))] []))) .nop))) (.sets [(5, (.bin .add (.s 5) (.k (.int .i64 1))))] [])))))) (.seq (.sets [(56, (.slc 1 (.s 0) (.cs (.s 3) .nl) .nl .nl))] []) (.seq (.act none (.clr 1 (.int .i64 0) (.tmp 56))) (.seq (.sets [(2, (.slc 1 (.s 0) .nl (.cs (.s 3) .nl) .nl))] []) .ret)))))) .nop))) (.sets [(3, (.bin .add (.s 3) (.k (.int .i64 1))))] [])))))) (.seq (.sets [(2, (.s 0))] []) .ret)))))), (.s 2), 61, [0, 2, 3, 4, 5, 8, 13, 25, 32, 44], [], []⟩
theorem x83 : fiOf Tryd.prog 83 [0, 2, 3, 4, 5, 8, 13, 25, 32, 44] [] = some X83 := by kernel_rfl

-- slices.DeleteFunc[[]int,int]
noncomputable def X84 : Fi := ⟨(.seq (.sets [(4, (.k (.slice none 0 0)))] []) (.seq (.sets [(8, (.s 0)), (9, (.s 1))] []) (.seq (.act (some 10) (.call 90 [(.tmp 8), (.tmp 9)])) (.seq (.sets [(5, (.s 10))] []) (.seq (.sets [(12, (.bin .eql (.s 5) (.k (.int .i64 (-1)))))] []) (.seq (.ite (.s 12) (.seq (.sets [(4, (.s 0))] []) .ret) .nop) (.seq (.sets [(6, (.bin .add (.s 5) (.k (.int .i64 1))))] []) (.seq (.block 0 (.loop (.seq (.sets [(19, (.bin .lss (.s 6) (.len (.s 0))))] []) (.seq (.ite (.s 19) .nop (.exit 0)) (.seq (.block 1 (.seq (.sets [(7, (.ld (.ix 1 (.s 0) (.s 6))))] []) (.seq (.sets [(26, (.s 1)), (27, (.s 7))] []) (.seq (.act (some 28) (.callv 26 [(.tmp 27)])) (.seq (.sets [(29, (.un .not (.s 28)))] []) (.ite (.s 29) (.seq (.sets [(32, (.s 7)), (33, (.ix 1 (.s 0) (.s 5)))] []) (.seq (.act none (.store 1 (.tmp 33) (.tmp 32))) (.sets [(5, (.bin .add (.s 5) (.k (.int .i64 1))))] []))) .nop)))))) (.sets [(6, (.bin .add (.s 6) (.k (.int .i64 1))))] [])))))) (.seq (.sets [(38, (.slc 1 (.s 0) (.cs (.s 5) .nl) .nl .nl))] []) (.seq (.act none (.clr 1 (.int .i64 0) (.tmp 38))) (.seq (.sets [(4, (.slc 1 (.s 0) .nl (.cs (.s 5) .nl) .nl))] []) .ret))))))))))), (.s 4), 42, [0, 1, 4, 5, 6, 7, 12, 19, 29], [], []⟩
theorem x84 : fiOf Tryd.prog 84 [0, 1, 4, 5, 6, 7, 12, 19, 29] [] = some X84 := by kernel_rfl

-- math/bits.Mul
noncomputable def X85 : Fi := ⟨(.seq (.sets [(4, (.k (.int .u64 0))), (5, (.k (.int .u64 0)))] []) (.seq (.ite (.k (.bool false)) (.seq (.sets [(12, (.cvt .u32 (.s 0))), (14, (.cvt .u32 (.s 1)))] []) (.seq (.act (some 15) (.call 91 [(.tmp 12), (.tmp 14)])) (.seq (.sets [(6, (.ext 0 (.s 15))), (7, (.ext 1 (.s 15)))] []) (.seq (.sets [(4, (.cvt .u64 (.s 6))), (5, (.cvt .u64 (.s 7)))] []) .ret)))) .nop) (.seq (.sets [(23, (.s 0)), (24, (.s 1))] []) (.seq (.act (some 25) (.call 92 [(.tmp 23), (.tmp 24)])) (.seq (.sets [(8, (.ext 0 (.s 25))), (9, (.ext 1 (.s 25)))] []) (.seq (.sets [(4, (.s 8)), (5, (.s 9))] []) .ret)))))), (.cs (.s 4) (.cs (.s 5) .nl)), 30, [0, 1, 4, 5, 6, 7, 8, 9], [], []⟩
theorem x85 : fiOf Tryd.prog 85 [0, 1, 4, 5, 6, 7, 8, 9] [] = some X85 := by kernel_rfl

-- slices.IndexFunc[[]int,int]
noncomputable def X90 : Fi := ⟨(.seq (.sets [(4, (.k (.int .i64 0)))] []) (.seq (.sets [(7, (.len (.s 0))), (8, (.k (.int .i64 0)))] []) (.seq (.block 0 (.loop (.seq (.sets [(9, (.bin .lss (.s 8) (.s 7)))] []) (.seq (.ite (.s 9) .nop (.exit 0)) (.seq (.block 1 (.seq (.sets [(5, (.s 8))] []) (.seq (.sets [(11, (.s 1)), (15, (.ld (.ix 1 (.s 0) (.s 5))))] []) (.seq (.act (some 16) (.callv 11 [(.tmp 15)])) (.ite (.s 16) (.seq (.sets [(4, (.s 5))] []) .ret) .nop))))) (.sets [(8, (.bin .add (.s 8) (.k (.int .i64 1))))] [])))))) (.seq (.sets [(4, (.k (.int .i64 (-1))))] []) .ret)))), (.s 4), 19, [0, 1, 4, 5, 7, 8, 9, 16], [], []⟩
theorem x90 : fiOf Tryd.prog 90 [0, 1, 4, 5, 7, 8, 9, 16] [] = some X90 := by kernel_rfl

-- math/bits.Mul32
noncomputable def X91 : Fi := ⟨(.seq (.sets [(4, (.k (.int .u32 0))), (5, (.k (.int .u32 0)))] []) (.seq (.sets [(6, (.bin .mul (.cvt .u64 (.s 0)) (.cvt .u64 (.s 1))))] []) (.seq (.sets [(4, (.cvt .u32 (.bin .shr (.s 6) (.k (.int .u64 32))))), (5, (.cvt .u32 (.s 6)))] []) .ret))), (.cs (.s 4) (.cs (.s 5) .nl)), 17, [0, 1, 4, 5, 6], [], []⟩
theorem x91 : fiOf Tryd.prog 91 [0, 1, 4, 5, 6] [] = some X91 := by kernel_rfl

-- math/bits.Mul64
noncomputable def X92 : Fi := ⟨(.seq (.sets [(4, (.k (.int .u64 0))), (5, (.k (.int .u64 0)))] []) (.seq (.sets [(6, (.bin .and (.s 0) (.k (.int .u64 4294967295))))] []) (.seq (.sets [(7, (.bin .shr (.s 0) (.k (.int .u64 32))))] []) (.seq (.sets [(8, (.bin .and (.s 1) (.k (.int .u64 4294967295))))] []) (.seq (.sets [(9, (.bin .shr (.s 1) (.k (.int .u64 32))))] []) (.seq (.sets [(10, (.bin .mul (.s 6) (.s 8)))] []) (.seq (.sets [(11, (.bin .add (.bin .mul (.s 7) (.s 8)) (.bin .shr (.s 10) (.k (.int .u64 32)))))] []) (.seq (.sets [(12, (.bin .and (.s 11) (.k (.int .u64 4294967295))))] []) (.seq (.sets [(13, (.bin .shr (.s 11) (.k (.int .u64 32))))] []) (.seq (.sets [(12, (.bin .add (.s 12) (.bin .mul (.s 6) (.s 9))))] []) (.seq (.sets [(4, (.bin .add (.bin .add (.bin .mul (.s 7) (.s 9)) (.s 13)) (.bin .shr (.s 12) (.k (.int .u64 32)))))] []) (.seq (.sets [(5, (.bin .mul (.s 0) (.s 1)))] []) .ret)))))))))))), (.cs (.s 4) (.cs (.s 5) .nl)), 51, [0, 1, 4, 5, 6, 7, 8, 9, 10, 11, 12, 13], [], []⟩
theorem x92 : fiOf Tryd.prog 92 [0, 1, 4, 5, 6, 7, 8, 9, 10, 11, 12, 13] [] = some X92 := by kernel_rfl

end Go.Proofs.YtbiejiangdbcmaaDoor.Tx
namespace Go.Proofs.YtbiejiangdbcmaaDoor.Mw
open Go Go.RowKit
set_option linter.unusedVariables false
set_option linter.unusedSimpArgs false
def ifaceB (P : Program) (t : TypeId) : Bool := match P.underlying t with
  | some (.interface _) => true
  | _ => false
theorem ifaceB_ok {P : Program} {t : TypeId} (h : ifaceB P t = true) : P.underlying t = some (.interface (P.methodsAt t)) := by
  unfold ifaceB at h
  unfold Program.methodsAt
  split at h
  · rename_i ms hm; rw [hm]
  · cases h
def mapB (P : Program) (mt : TypeId) : Bool := match P.underlying mt with
  | some (.map kt et) => match P.underlying kt with
    | some (.int .i64) => match (P.info? et).bind (·.zero) with
      | some (.int .i64 (.ofNat 0)) => true
      | _ => false
    | _ => false
  | _ => false
theorem mapB_ok {P : Program} {mt : TypeId} (h : mapB P mt = true) : ∃ kt et, P.underlying mt = some (.map kt et) ∧ P.underlying kt = some (.int .i64) ∧ (P.info? et).bind (·.zero) = some (.int .i64 0) := by
  unfold mapB at h
  split at h
  rotate_left
  · cases h
  rename_i kt et hm
  split at h
  rotate_left
  · cases h
  rename_i hk
  split at h
  · rename_i hz; exact ⟨kt, et, hm, hk, hz⟩
  · cases h
def asAsk (O : Orc) : List (Int × SX) → SX → Option (Option SX)
  | [], _ => some none
  | (k, v) :: r, u => match u with
    | .n j => cond (eqI k j) (some (some v)) (asAsk O r u)
    | u => match O.ask .eql (.n k) u with
      | some true => some (some v)
      | some false => asAsk O r u
      | none => none
theorem asAsk_ok {σ : Nat → Int} {O : Orc} (hO : O.Ok σ) : ∀ {l : List (Int × SX)} {u : SX} {q : Option SX}, asAsk O l u = some q → asGet l (u.den σ) = q
  | [], u, q, h => by simp only [asAsk, Option.some.injEq] at h; subst h; rfl
  | (k, v) :: r, u, q, h => by
    have key : (match O.ask .eql (.n k) u with | some true => some (some v) | some false => asAsk O r u | none => none) = some q → asGet ((k, v) :: r) (u.den σ) = q := by
      intro h
      split at h
      · rename_i hb
        cases h
        have := Orc.ask_ok hO hb
        simp only [cmpV, SX.den, Option.some.injEq, Value.bool.injEq] at this
        simp only [asGet, eqI_eq, this, cond]
      · rename_i hb
        have := Orc.ask_ok hO hb
        simp only [cmpV, SX.den, Option.some.injEq, Value.bool.injEq] at this
        simp only [asGet, eqI_eq, this, cond]
        exact asAsk_ok hO h
      · cases h
    cases u with
    | n j =>
      simp only [asAsk] at h
      simp only [asGet, SX.den]
      cases e : eqI k j <;> rw [e] at h <;> simp only [cond] at h ⊢
      · exact asAsk_ok hO h
      · cases h; rfl
    | v i => simp only [asAsk] at h; exact key h
    | b op kk x y => simp only [asAsk] at h; exact key h
    | c kk x => simp only [asAsk] at h; exact key h
def oprE (P : Program) (O : Orc) (o : Oper) (env : Tr EV) (T : TM) (nx : Nat) : RC := match o.op with
  | .binOp .eql t (.tmp x) (.const .nilIface) _ => cond (ifaceB P t) (match envGet env x with
    | .raw .nilIface => .ok (.bool true) T nx
    | .ifc _ _ => .ok (.bool false) T nx
    | _ => .no []) (.no [])
  | .binOp .neq t (.tmp x) (.const .nilIface) _ => cond (ifaceB P t) (match envGet env x with
    | .raw .nilIface => .ok (.bool false) T nx
    | .ifc _ _ => .ok (.bool true) T nx
    | _ => .no []) (.no [])
  | .makeMap mt none => newB T nx ⟨0, true, 0, 0, [], some []⟩ (.mpp nx)
  | .lookup mt (.tmp x) (.tmp y) true => match envGet env x, envGet env y with
    | .mpp i, .int .i64 k => cond (mapB P mt) (match T.get i with
      | some B => match B.mp with
        | some a => match asAsk O a k with
          | some (some v) => .ok (.tup [.int .i64 v, .bool true]) T nx
          | some none => .ok (.tup [.int .i64 (.n 0), .bool false]) T nx
          | none => .no [71]
        | none => .no []
      | none => .no []) (.no [])
    | _, _ => .no []
  | .mapUpdate mt x y z => match ofE env x, ofE env y, ofE env z with
    | .mpp i, .int .i64 (.n k), .int .i64 v => cond (mapB P mt) (match T.get i with
      | some B => match B.mp with
        | some a => setB T nx i { B with mp := some ((k, v) :: asDel a k) } (.raw undef)
        | none => .no []
      | none => .no []) (.no [])
    | _, _, _ => .no []
  | .call ⟨.builtin .delete, args, ts⟩ => match args.toList, ts.toList with
    | [.tmp x, .tmp y], [mt, _] => match envGet env x, envGet env y with
      | .mpp i, .int .i64 (.n k) => cond (mapB P mt) (match T.get i with
        | some B => match B.mp with
          | some a => setB T nx i { B with mp := some (asDel a k) } (.tup [])
          | none => .no []
        | none => .no []) (.no [])
      | _, _ => .no []
    | _, _ => .no []
  | _ => .no []
section
variable {c : Cx} {n : Nat}
theorem RM.map {T : TM} {M : DMem} (hM : RM c n T M) {i : Nat} {B : TB} {a : List (Int × SX)} (hB : T.get i = some B) (ha : B.mp = some a) : i < n ∧ MapAt M (.raw (.map (some (c.φ i)))) (c.φ i) (asDen c.σ a) := by
  obtain ⟨hi, D, hD, hR⟩ := hM.blk i B hB
  obtain ⟨l, ck, rfl, h2, h3⟩ := hR.mp a ha
  exact ⟨hi, rfl, l, ck, hD, h2, h3⟩
theorem RM.setMap {T T' : TM} {M M' : DMem} (hM : RM c n T M) {i : Nat} {B : TB} {a : List (Int × SX)} {d : DV} (hB : T.get i = some B) (ha : B.mp.isSome = true) (hp : T.put i (some { B with mp := some a }) = some T') (hm : MapAt M' d (c.φ i) (asDen c.σ a))
    (hk : ∀ y C, y ≠ c.φ i → M y = some C → M' y = some C) : RM c n T' M' := by
  have hg := Tr.put_get _ _ _ _ hp
  obtain ⟨a0, ha0⟩ := Option.isSome_iff_exists.1 ha
  obtain ⟨h1, D, h2, h3⟩ := hM.blk i B hB
  obtain ⟨l0, ck0, rfl, _⟩ := h3.mp a0 ha0
  have hne : ∀ j, T.get j ≠ none ↔ T'.get j ≠ none := fun j => by
    rw [hg]
    by_cases e : j = i
    · subst e; rw [if_pos rfl, hB]; simp
    · rw [if_neg e]
  refine ⟨fun j C hC => ?_, fun j k hj hk he => hM.inj j k ((hne j).2 hj) ((hne k).2 hk) he⟩
  rw [hg] at hC
  by_cases e : j = i
  · subst e
    rw [if_pos rfl] at hC; cases hC
    obtain ⟨_, l, ck, g1, g2, g3⟩ := hm
    exact ⟨h1, _, g1, h3.cells, h3.len, h3.size, fun a' ha' => by cases ha'; exact ⟨l, ck, rfl, g2, g3⟩⟩
  · rw [if_neg e] at hC
    obtain ⟨g1, D', g2, g3⟩ := hM.blk j C hC
    refine ⟨g1, D', hk _ _ (fun hh => ?_) g2, g3⟩
    exact e (hM.inj j i (by rw [hC]; simp) (by rw [hB]; simp) hh)
end
theorem MapAt.congr {M : DMem} {d : DV} {b : Nat} {f g : Int → Option Int} (h : MapAt M d b f) (e : ∀ k, f k = g k) : MapAt M d b g := by
  obtain ⟨h1, l, ck, h2, h3, h4⟩ := h
  exact ⟨h1, l, ck, h2, h3, fun k => (h4 k).trans (e k)⟩
theorem oprE_ok {P : Program} {O : Orc} (o : Oper) (env : Tr EV) (c : Cx) (n n' : Nat) (T T' : TM) (δ : DEnv) (M : DMem) (v : EV) (Post : DV → DMem → Prop) (h : oprE P O o env T n = .ok v T' n') (hO : O.Ok c.σ)
    (hE : ∀ x ∈ o.op.operands, RV c n (ofE env x) (δ.of x)) (hM : RM c n T M) (hP : PostC c n n' v T' Post) : EffD P o Post δ M := by
  unfold oprE at h
  split at h
  · rename_i t x s ho
    have hx : RV c n (envGet env x) (δ x) := hE (.tmp x) (by simp [ho, Op.operands])
    cases hi : ifaceB P t <;> rw [hi] at h <;> simp only [cond, reduceCtorEq] at h
    split at h
    · rename_i he; rw [he] at hx; simp only [RV] at hx; cases h
      exact effEqNil ho (ifaceB_ok hi) (b := true) (.inl ⟨rfl, hx⟩) (hP c _ M (Nat.le_refl _) (Cx.Ext.refl _ _) (by simp only [RV]) hM)
    · rename_i tt e he; rw [he] at hx; simp only [RV] at hx; cases h
      obtain ⟨d, hd, _⟩ := hx
      exact effEqNil ho (ifaceB_ok hi) (b := false) (.inr ⟨rfl, _, d, hd⟩) (hP c _ M (Nat.le_refl _) (Cx.Ext.refl _ _) (by simp only [RV]) hM)
    · cases h
  · rename_i t x s ho
    have hx : RV c n (envGet env x) (δ x) := hE (.tmp x) (by simp [ho, Op.operands])
    cases hi : ifaceB P t <;> rw [hi] at h <;> simp only [cond, reduceCtorEq] at h
    split at h
    · rename_i he; rw [he] at hx; simp only [RV] at hx; cases h
      exact effNeNil ho (ifaceB_ok hi) (b := false) (.inl ⟨rfl, hx⟩) (hP c _ M (Nat.le_refl _) (Cx.Ext.refl _ _) (by simp only [RV]) hM)
    · rename_i tt e he; rw [he] at hx; simp only [RV] at hx; cases h
      obtain ⟨d, hd, _⟩ := hx
      exact effNeNil ho (ifaceB_ok hi) (b := true) (.inr ⟨rfl, _, d, hd⟩) (hP c _ M (Nat.le_refl _) (Cx.Ext.refl _ _) (by simp only [RV]) hM)
    · cases h
  · rename_i mt ho
    obtain ⟨rfl, rfl, hp⟩ := newB_ok h
    refine effMap ho fun b M' hb hm hk => ?_
    obtain ⟨a1, a2, a3⟩ := Cx.new_at c n b 0 0
    refine hP (c.new n b 0 0) _ _ (by omega) (ext_new _ _ _) (by simp only [RV]; exact ⟨by omega, by rw [a1]⟩) ?_
    obtain ⟨_, l, ck, g1, g2, g3⟩ := hm
    exact hM.new hp (hM.fresh hb) (fun i hi => hk _ (hM.fresh hb i hi)) g1 RL.nil rfl rfl fun a ha => by cases ha; exact ⟨l, ck, rfl, g2, g3⟩
  · rename_i mt x y ho
    have hx : RV c n (envGet env x) (δ x) := hE (.tmp x) (by simp [ho, Op.operands])
    have hy : RV c n (envGet env y) (δ y) := hE (.tmp y) (by simp [ho, Op.operands])
    split at h
    rotate_left
    · cases h
    rename_i i k hxe hye
    rw [hxe] at hx
    rw [hye] at hy
    simp only [RV, SX.den] at hx hy
    cases hi : mapB P mt <;> rw [hi] at h <;> simp only [cond, reduceCtorEq] at h
    obtain ⟨kt, et, m1, m2, m3⟩ := mapB_ok hi
    split at h
    rotate_left
    · cases h
    rename_i B hB
    split at h
    rotate_left
    · cases h
    rename_i a ha
    have hm := (hM.map hB ha).2
    refine effLook ho m1 m2 m3 (b := c.φ i) (f := asDen c.σ a) (k := k.den c.σ) (by rw [hx.2]; exact hm) hy ?_
    split at h
    · rename_i w hw
      cases h
      simp only [asDen, asAsk_ok hO hw, Option.map_some]
      exact hP c _ M (Nat.le_refl _) (Cx.Ext.refl _ _) (by simp only [RV]; exact ⟨_, rfl, RL.cons (by simp only [RV, SX.den, Option.getD_some]) (RL.cons (by simp only [RV, Option.isSome_some]) RL.nil)⟩) hM
    · rename_i hw
      cases h
      simp only [asDen, asAsk_ok hO hw, Option.map_none]
      exact hP c _ M (Nat.le_refl _) (Cx.Ext.refl _ _) (by simp only [RV]; exact ⟨_, rfl, RL.cons (by simp only [RV, SX.den, Option.getD_none]) (RL.cons (by simp only [RV, Option.isSome_none]) RL.nil)⟩) hM
    · cases h
  · rename_i mt x y z ho
    have hx := hE x (by simp [ho, Op.operands])
    have hy := hE y (by simp [ho, Op.operands])
    have hz := hE z (by simp [ho, Op.operands])
    split at h
    rotate_left
    · cases h
    rename_i i k w hxe hye hze
    rw [hxe] at hx
    rw [hye] at hy
    rw [hze] at hz
    simp only [RV, SX.den] at hx hy hz
    cases hi : mapB P mt <;> rw [hi] at h <;> simp only [cond, reduceCtorEq] at h
    obtain ⟨kt, et, m1, m2, m3⟩ := mapB_ok hi
    split at h
    rotate_left
    · cases h
    rename_i B hB
    split at h
    rotate_left
    · cases h
    rename_i a ha
    have hm := (hM.map hB ha).2
    obtain ⟨rfl, rfl, hp⟩ := setB_ok h
    refine effUpdate ho m1 m2 (b := c.φ i) (f := asDen c.σ a) (by rw [hx.2]; exact hm) hy hz fun M' h1 h2 => ?_
    refine hP c _ M' (Nat.le_refl _) (Cx.Ext.refl _ _) (by simp only [RV]) (hM.setMap hB (by rw [ha]; rfl) hp (h1.congr fun j => ?_) fun y C hy hC => by rw [h2 y hy]; exact hC)
    simp only [asDen, asGet, eqI_eq, asDel_get]
    by_cases e : j = k
    · subst e; simp
    · have : (k == j) = false := by simpa using fun h : k = j => e h.symm
      rw [if_neg e, this]; simp only [cond]; rw [if_neg e]
  · rename_i args ts ho
    split at h
    rotate_left
    · cases h
    rename_i x y mt kt' hargs hts
    have ea : args = #[.tmp x, .tmp y] := by rw [← hargs]
    have et' : ts = #[mt, kt'] := by rw [← hts]
    subst ea; subst et'
    have hx : RV c n (envGet env x) (δ x) := hE (.tmp x) (by simp [ho, Op.operands, Call.operands])
    have hy : RV c n (envGet env y) (δ y) := hE (.tmp y) (by simp [ho, Op.operands, Call.operands])
    split at h
    rotate_left
    · cases h
    rename_i i k hxe hye
    rw [hxe] at hx
    rw [hye] at hy
    simp only [RV, SX.den] at hx hy
    cases hi : mapB P mt <;> rw [hi] at h <;> simp only [cond, reduceCtorEq] at h
    obtain ⟨kt, et, m1, m2, m3⟩ := mapB_ok hi
    split at h
    rotate_left
    · cases h
    rename_i B hB
    split at h
    rotate_left
    · cases h
    rename_i a ha
    have hm := (hM.map hB ha).2
    obtain ⟨rfl, rfl, hp⟩ := setB_ok h
    refine effDelete ho m1 m2 (b := c.φ i) (f := asDen c.σ a) (k := k) (by rw [hx.2]; exact hm) hy fun M' h1 h2 => ?_
    refine hP c _ M' (Nat.le_refl _) (Cx.Ext.refl _ _) (by simp only [RV]; exact ⟨_, rfl, RL.nil⟩) (hM.setMap hB (by rw [ha]; rfl) hp (h1.congr fun j => ?_) fun y C hy hC => by rw [h2 y hy]; exact hC)
    simp only [asDen, asDel_get]
    by_cases e : j = k
    · rw [if_pos e, if_pos e]; rfl
    · rw [if_neg e, if_neg e]
  · cases h
def mkT : List (Nat × Fe) → Tr Fe → Option (Tr Fe)
  | [], t => some t
  | (f, e) :: r, t => match t.put f (some e) with
    | some t => mkT r t
    | none => none
def FeOk (P : Program) (f : FuncId) : Fe → Prop
  | .code pre fi => CodeOk P f fi ∧ PureOk P f pre
  | .prim g => PrimOk P f g
theorem mkT_ok {P : Program} : ∀ {l : List (Nat × Fe)} {t t' : Tr Fe}, mkT l t = some t' → (∀ q ∈ l, FeOk P q.1 q.2) → (∀ f e, t.get f = some e → FeOk P f e) → ∀ f e, t'.get f = some e → FeOk P f e
  | [], t, t', h, _, ht => by simp only [mkT, Option.some.injEq] at h; subst h; exact ht
  | (f, e) :: r, t, t', h, hl, ht => by
    simp only [mkT] at h
    split at h
    · rename_i t2 h2
      have hg := Tr.put_get _ _ _ _ h2
      refine mkT_ok h (fun q hq => hl q (List.mem_cons_of_mem _ hq)) fun f' e' h' => ?_
      rw [hg] at h'
      by_cases e0 : f' = f
      · rw [if_pos e0] at h'; cases h'; rw [e0]; exact hl (f, e) List.mem_cons_self
      · rw [if_neg e0] at h'; exact ht f' e' h'
    · cases h
def mem0 : TM := Tr.full TB 24
theorem mem0_get (i : Nat) : mem0.get i = none := Tr.get_full 24 i
def cfgOf (P : Program) (l : List (Nat × Fe)) (O : Orc) : Cfg := ⟨P, O, ((mkT l (Tr.full Fe 10)).getD .e).get, oprE P O⟩
theorem cfgOf_ok {P : Program} {l : List (Nat × Fe)} (hl : ∀ q ∈ l, FeOk P q.1 q.2) (O : Orc) : (cfgOf P l O).Ok := by
  have key : ∀ f e, (cfgOf P l O).tbl f = some e → FeOk P f e := by
    intro f e h
    simp only [cfgOf] at h
    cases hm : mkT l (Tr.full Fe 10) with
    | none => rw [hm] at h; simp only [Option.getD_none, Tr.get_e] at h; cases h
    | some t => rw [hm] at h; exact mkT_ok hm hl (fun f e h => by rw [Tr.get_full] at h; cases h) f e h
  exact ⟨fun f pre fi h => key f _ h, fun f g h => key f _ h, fun o env c n n' T T' δ M v Post h hO hE hM hP => oprE_ok o env c n n' T T' δ M v Post h hO hE hM hP⟩
def isT : RC → Bool
  | .ok (.bool b) _ _ => b
  | _ => false
def intsE : Nat → List Int → List DV
  | _, [] => []
  | i, x :: r => .int .i64 x :: intsE (i + 1) r
def noPre : List EV → Option EV := fun _ => none
theorem noPre_ok (P : Program) (f : FuncId) : PureOk P f noPre := fun c n args ds M v Post h => by cases h
def zPre : List EV → Option EV
  | [.zsl] => some .zsl
  | [.isl 0 _] => some .zsl
  | _ => none
def isZ : RC → Bool
  | .ok .zsl _ _ => true
  | _ => false
theorem PC.only {P : Program} {f : FuncId} {ds : List DV} {v : DV} {Post : DV → DMem → Prop} {M : DMem} (h : PC P f ds (fun d _ => d = v) DMem.mt) (hP : Post v M) : PC P f ds Post M :=
  PC.drop (PC.frame (R' := fun d M' => d = v ∧ SubD M M') h fun d M2 hd _ => ⟨hd, SubD.or_left _ _⟩) fun d M' hd => ⟨M, hd.2, by rw [hd.1]; exact hP⟩
theorem zPre_ok {P : Program} {f : FuncId} {fi : Fi} (hf : CodeOk P f fi) (h : ∀ a q, isZ (codeR (cfgOf P [] ⟨[], [], []⟩) (run (cfgOf P [] ⟨[], [], []⟩) 30) fi f [.raw (.slice a 0 q)] mem0 0) = true) : PureOk P f zPre := by
  have key : ∀ (M : DMem) (Post : DV → DMem → Prop) a q, Post .zsl M → PC P f [.raw (.slice a 0 q)] Post M := by
    intro M Post a q hp
    have h := h a q
    cases hc : codeR (cfgOf P [] ⟨[], [], []⟩) (run (cfgOf P [] ⟨[], [], []⟩) 30) fi f [.raw (.slice a 0 q)] mem0 0 with
    | no w => rw [hc] at h; cases h
    | ok v T n =>
      rw [hc] at h
      have hv : v = .zsl := by cases v <;> simp [isZ] at h; rfl
      subst hv
      have hcf : (cfgOf P [] ⟨[], [], []⟩).Ok := cfgOf_ok (fun q hq => by cases hq) _
      refine PC.only (v := .zsl) ?_ hp
      refine codeR_ok (c := ⟨fun _ => 0, fun _ => 0, fun _ => 0, fun _ => 0⟩) (run_ok hcf 30) hf hc ⟨(fun q hq => by cases hq), (fun q hq => by cases hq), fun q hq => by cases hq⟩ (RL.cons (by simp only [RV]) RL.nil) ⟨(fun i B hB => by rw [mem0_get] at hB; cases hB), fun i j hi => by rw [mem0_get] at hi; exact absurd rfl hi⟩ fun c' d M' _ _ hd _ => ?_
      simpa only [RV] using hd
  intro c n args ds M v Post hp hr hPost
  unfold zPre at hp
  split at hp
  · cases hp
    simp only [RL, RV] at hr
    obtain ⟨d, r, rfl, rfl, rfl⟩ := hr
    intro F m vals hM hr hF ho
    obtain ⟨h1, h2⟩ := hr
    match vals, h2 with
    | [v], _ =>
      have hv := h1.1
      simp only [Rep] at hv
      obtain ⟨a, rfl⟩ := hv
      exact key M Post a 0 (hPost _ (by simp only [RV])) F m _ hM ⟨⟨by simp only [Rep], trivial⟩, rfl⟩ hF ho
  · cases hp
    simp only [RL, RV] at hr
    obtain ⟨d, r, rfl, ⟨es, rfl, _⟩, rfl⟩ := hr
    intro F m vals hM hr hF ho
    obtain ⟨h1, h2⟩ := hr
    match vals, h2 with
    | [v], _ =>
      have hv := h1.1
      simp only [Rep] at hv
      obtain ⟨a, q, rfl, _⟩ := hv
      exact key M Post a q (hPost _ (by simp only [RV])) F m _ hM ⟨⟨by simp only [Rep], trivial⟩, rfl⟩ hF ho
  · cases hp
theorem run_law {cf : Cfg} (hcf : cf.Ok) {k : Nat} {f : FuncId} {args : List EV} {ds : List DV} {σ : Nat → Int} (hO : cf.O.Ok σ) (h : isT (callR cf (run cf k) f args mem0 0) = true)
    (hr : RL ⟨σ, fun _ => 0, fun _ => 0, fun _ => 0⟩ 0 args ds) : PC cf.P f ds (fun d' M' => d' = .bool true) DMem.mt := by
  cases hc : callR cf (run cf k) f args mem0 0 with
  | no w => rw [hc] at h; cases h
  | ok v T n =>
    rw [hc] at h
    cases v <;> simp only [isT, Bool.false_eq_true] at h
    subst h
    refine run_pc hcf hc hO hr ⟨(fun i B hB => by rw [mem0_get] at hB; cases hB), fun i j hi => by rw [mem0_get] at hi; exact absurd rfl hi⟩ fun c' d M' _ _ hd _ => ?_
    simpa only [RV] using hd
end Go.Proofs.YtbiejiangdbcmaaDoor.Mw
namespace Go.Proofs.YtbiejiangdbcmaaDoor.Mw
open Go Go.RowKit
set_option linter.unusedVariables false
set_option linter.unusedSimpArgs false
set_option linter.constructorNameAsVariable false
noncomputable section
def getF {α : Type} (t : Tr α) : Nat → Option α :=
  Tr.rec (motive := fun _ => Nat → Option α) (fun _ => none) (fun v _ _ l r k => Nat.rec (motive := fun _ => Option α) v (fun j _ => Bool.rec (motive := fun _ => Option α) (r (Nat.div j 2)) (l (Nat.div j 2)) (Nat.beq (Nat.mod j 2) 0)) k) t
theorem getF_eq {α : Type} (t : Tr α) : ∀ k, getF t k = t.get k := by
  induction t with
  | e => intro k; rw [Tr.get_e]; rfl
  | n v l r ihl ihr =>
    intro k
    cases k with
    | zero => rfl
    | succ j =>
      simp only [Tr.get]
      rw [← ihl, ← ihr]
      show Bool.rec (motive := fun _ => Option α) (getF r (Nat.div j 2)) (getF l (Nat.div j 2)) (Nat.beq (Nat.mod j 2) 0) = _
      cases Nat.beq (Nat.mod j 2) 0 <;> rfl
def putF {α : Type} (t : Tr α) : Nat → Option α → Option (Tr α) :=
  Tr.rec (motive := fun _ => Nat → Option α → Option (Tr α)) (fun _ _ => none) (fun v tl tr l r k o => Nat.rec (motive := fun _ => Option (Tr α)) (some (.n o tl tr)) (fun j _ => Bool.rec (motive := fun _ => Option (Tr α))
    (Option.rec (motive := fun _ => Option (Tr α)) none (fun r' => some (.n v tl r')) (r (Nat.div j 2) o)) (Option.rec (motive := fun _ => Option (Tr α)) none (fun l' => some (.n v l' tr)) (l (Nat.div j 2) o)) (Nat.beq (Nat.mod j 2) 0)) k) t
theorem putF_eq {α : Type} (t : Tr α) : ∀ k o, putF t k o = t.put k o := by
  induction t with
  | e => intro k o; rfl
  | n v l r ihl ihr =>
    intro k o
    cases k with
    | zero => rfl
    | succ j =>
      simp only [Tr.put]
      rw [← ihl, ← ihr]
      show Bool.rec (motive := fun _ => Option (Tr α)) (Option.rec (motive := fun _ => Option (Tr α)) none (fun r' => some (.n v l r')) (putF r (Nat.div j 2) o)) (Option.rec (motive := fun _ => Option (Tr α)) none (fun l' => some (.n v l' r)) (putF l (Nat.div j 2) o)) (Nat.beq (Nat.mod j 2) 0) = _
      cases Nat.beq (Nat.mod j 2) 0
      · simp only [cond]; cases putF r (Nat.div j 2) o <;> rfl
      · simp only [cond]; cases putF l (Nat.div j 2) o <;> rfl
theorem ob_eq {α β : Type} (o : Option α) (f : α → Option β) : @Option.rec _ (fun _ => Option β) none f o = o.bind f := by cases o <;> rfl
def ltF (x y : Int) : Bool := Int.rec (motive := fun _ => Bool) (fun a => Int.rec (motive := fun _ => Bool) (fun b => Nat.ble (Nat.succ a) b) (fun _ => false) y) (fun a => Int.rec (motive := fun _ => Bool) (fun _ => true) (fun b => Nat.ble (Nat.succ b) a) y) x
theorem ltF_eq (x y : Int) : ltF x y = ltI x y := by cases x <;> cases y <;> rfl
def eqF (x y : Int) : Bool := Int.rec (motive := fun _ => Bool) (fun a => Int.rec (motive := fun _ => Bool) (fun b => Nat.beq a b) (fun _ => false) y) (fun a => Int.rec (motive := fun _ => Bool) (fun _ => false) (fun b => Nat.beq a b) y) x
theorem eqF_eq (x y : Int) : eqF x y = eqI x y := by cases x <;> cases y <;> rfl
def notF (b : Bool) : Bool := @Bool.rec (fun _ => Bool) true false b
theorem notF_eq (b : Bool) : notF b = !b := by cases b <;> rfl
def anB (a b : Bool) : Bool := @Bool.rec (fun _ => Bool) false b a
theorem anB_eq (a b : Bool) : anB a b = (a && b) := by cases a <;> rfl
def memF (l : List Nat) : Nat → Bool := @List.rec Nat (fun _ => Nat → Bool) (fun _ => false) (fun x _ ih d => @Bool.rec (fun _ => Bool) (ih d) true (Nat.beq d x)) l
theorem memF_eq (l : List Nat) (d : Nat) : memF l d = l.contains d := by
  induction l with
  | nil => rfl
  | cons x r ih =>
    show @Bool.rec (fun _ => Bool) (memF r d) true (Nat.beq d x) = _
    rw [List.contains_cons, ih, natbeq, show (d == x) = decide (d = x) from rfl]
    cases decide (d = x) <;> rfl
def mapF {α β : Type} (f : α → β) (l : List α) : List β := @List.rec α (fun _ => List β) [] (fun x _ ih => f x :: ih) l
theorem mapF_eq {α β : Type} (f : α → β) (l : List α) : mapF f l = l.map f := by
  induction l with
  | nil => rfl
  | cons x r ih => show f x :: mapF f r = _; rw [ih]; rfl
def lenF (l : List EV) : Nat := @List.rec EV (fun _ => Nat) 0 (fun _ _ ih => Nat.succ ih) l
theorem lenF_eq (l : List EV) : lenF l = lenL l := by
  induction l with
  | nil => rfl
  | cons x r ih => show Nat.succ (lenF r) = _; rw [ih]; rfl
def op64 (x0 : BinOp) : Orc → Int → Int → Option EV := BinOp.casesOn (motive := fun _ => Orc → Int → Int → Option EV) x0
  (fun _ u v => some (.int .i64 (.n (wrF .i64 (Int.add u v)))))
  (fun _ u v => some (.int .i64 (.n (wrF .i64 (Int.sub u v)))))
  (fun _ u v => some (.int .i64 (.n (wrF .i64 (Int.mul u v)))))
  (fun O u v => binE O BinOp.quo (.int .i64 (.n u)) (.int .i64 (.n v)))
  (fun O u v => binE O BinOp.rem (.int .i64 (.n u)) (.int .i64 (.n v)))
  (fun O u v => binE O BinOp.and (.int .i64 (.n u)) (.int .i64 (.n v)))
  (fun O u v => binE O BinOp.or (.int .i64 (.n u)) (.int .i64 (.n v)))
  (fun O u v => binE O BinOp.xor (.int .i64 (.n u)) (.int .i64 (.n v)))
  (fun O u v => binE O BinOp.shl (.int .i64 (.n u)) (.int .i64 (.n v)))
  (fun O u v => binE O BinOp.shr (.int .i64 (.n u)) (.int .i64 (.n v)))
  (fun O u v => binE O BinOp.andNot (.int .i64 (.n u)) (.int .i64 (.n v)))
  (fun _ u v => some (.bool (eqF u v)))
  (fun _ u v => some (.bool (notF (eqF u v))))
  (fun _ u v => some (.bool (ltF u v)))
  (fun _ u v => some (.bool (notF (ltF v u))))
  (fun _ u v => some (.bool (ltF v u)))
  (fun _ u v => some (.bool (notF (ltF u v))))
theorem op64_eq (O : Orc) (op : BinOp) (u v : Int) : op64 op O u v = binE O op (.int .i64 (.n u)) (.int .i64 (.n v)) := by
  cases op <;> first | rfl | (simp only [op64, binE, binS, isCmp, cmI, arF, eqF_eq, ltF_eq, notF_eq, decide_true, cond]; done) | (simp [op64, binE, binS, isCmp, cmI, arF, eqF_eq, ltF_eq, notF_eq])
def bn4 (x0 : SX) : Int → Orc → BinOp → Option EV := SX.casesOn (motive := fun _ => Int → Orc → BinOp → Option EV) x0
  (fun v u O op => op64 op O u v)
  (fun q0 u O op => binE O op (.int .i64 (.n u)) (.int .i64 (SX.v q0)))
  (fun q0 q1 q2 q3 u O op => binE O op (.int .i64 (.n u)) (.int .i64 (SX.b q0 q1 q2 q3)))
  (fun q0 q1 u O op => binE O op (.int .i64 (.n u)) (.int .i64 (SX.c q0 q1)))
def bn3 (x0 : SX) : SX → Orc → BinOp → Option EV := SX.casesOn (motive := fun _ => SX → Orc → BinOp → Option EV) x0
  (fun u y O op => bn4 y u O op)
  (fun q0 y O op => binE O op (.int .i64 (SX.v q0)) (.int .i64 y))
  (fun q0 q1 q2 q3 y O op => binE O op (.int .i64 (SX.b q0 q1 q2 q3)) (.int .i64 y))
  (fun q0 q1 y O op => binE O op (.int .i64 (SX.c q0 q1)) (.int .i64 y))
def bn2 (x0 : IntKind) : SX → SX → Orc → BinOp → Option EV := IntKind.casesOn (motive := fun _ => SX → SX → Orc → BinOp → Option EV) x0
  (fun x y O op => binE O op (.int .i64 x) (.int (IntKind.i8) y))
  (fun x y O op => binE O op (.int .i64 x) (.int (IntKind.i16) y))
  (fun x y O op => binE O op (.int .i64 x) (.int (IntKind.i32) y))
  (fun x y O op => bn3 x y O op)
  (fun x y O op => binE O op (.int .i64 x) (.int (IntKind.u8) y))
  (fun x y O op => binE O op (.int .i64 x) (.int (IntKind.u16) y))
  (fun x y O op => binE O op (.int .i64 x) (.int (IntKind.u32) y))
  (fun x y O op => binE O op (.int .i64 x) (.int (IntKind.u64) y))
def bn1 (x0 : EV) : SX → Orc → BinOp → Option EV := EV.casesOn (motive_1 := fun _ => SX → Orc → BinOp → Option EV) x0
  (fun k' y x O op => bn2 k' x y O op)
  (fun q0 x O op => binE O op (.int .i64 x) (EV.bool q0))
  (fun q0 x O op => binE O op (.int .i64 x) (EV.str q0))
  (fun x O op => binE O op (.int .i64 x) (EV.nilp))
  (fun q0 q1 x O op => binE O op (.int .i64 x) (EV.mp q0 q1))
  (fun q0 x O op => binE O op (.int .i64 x) (EV.ip q0))
  (fun q0 q1 x O op => binE O op (.int .i64 x) (EV.isl q0 q1))
  (fun x O op => binE O op (.int .i64 x) (EV.zsl))
  (fun q0 q1 q2 q3 q4 x O op => binE O op (.int .i64 x) (EV.msl q0 q1 q2 q3 q4))
  (fun q0 x O op => binE O op (.int .i64 x) (EV.agg q0))
  (fun q0 x O op => binE O op (.int .i64 x) (EV.tup q0))
  (fun q0 q1 q2 x O op => binE O op (.int .i64 x) (EV.fn q0 q1 q2))
  (fun q0 q1 x O op => binE O op (.int .i64 x) (EV.ifc q0 q1))
  (fun q0 x O op => binE O op (.int .i64 x) (EV.raw q0))
  (fun q0 x O op => binE O op (.int .i64 x) (EV.mpp q0))
def bn0 (x0 : IntKind) : SX → EV → Orc → BinOp → Option EV := IntKind.casesOn (motive := fun _ => SX → EV → Orc → BinOp → Option EV) x0
  (fun x b O op => binE O op (.int (IntKind.i8) x) b)
  (fun x b O op => binE O op (.int (IntKind.i16) x) b)
  (fun x b O op => binE O op (.int (IntKind.i32) x) b)
  (fun x b O op => bn1 b x O op)
  (fun x b O op => binE O op (.int (IntKind.u8) x) b)
  (fun x b O op => binE O op (.int (IntKind.u16) x) b)
  (fun x b O op => binE O op (.int (IntKind.u32) x) b)
  (fun x b O op => binE O op (.int (IntKind.u64) x) b)
def binF (x0 : EV) : EV → Orc → BinOp → Option EV := EV.casesOn (motive_1 := fun _ => EV → Orc → BinOp → Option EV) x0
  (fun k x b O op => bn0 k x b O op)
  (fun q0 b O op => binE O op (EV.bool q0) b)
  (fun q0 b O op => binE O op (EV.str q0) b)
  (fun b O op => binE O op (EV.nilp) b)
  (fun q0 q1 b O op => binE O op (EV.mp q0 q1) b)
  (fun q0 b O op => binE O op (EV.ip q0) b)
  (fun q0 q1 b O op => binE O op (EV.isl q0 q1) b)
  (fun b O op => binE O op (EV.zsl) b)
  (fun q0 q1 q2 q3 q4 b O op => binE O op (EV.msl q0 q1 q2 q3 q4) b)
  (fun q0 b O op => binE O op (EV.agg q0) b)
  (fun q0 b O op => binE O op (EV.tup q0) b)
  (fun q0 q1 q2 b O op => binE O op (EV.fn q0 q1 q2) b)
  (fun q0 q1 b O op => binE O op (EV.ifc q0 q1) b)
  (fun q0 b O op => binE O op (EV.raw q0) b)
  (fun q0 b O op => binE O op (EV.mpp q0) b)
theorem binF_eq (O : Orc) (op : BinOp) (a b : EV) : binF a b O op = binE O op a b := by
  cases a <;> try rfl
  rename_i k x
  cases k <;> try rfl
  cases b <;> try rfl
  rename_i k' y
  cases k' <;> try rfl
  cases x <;> try rfl
  cases y <;> try rfl
  exact op64_eq O op _ _
def nthF (l : List EV) : Nat → Option EV := @List.rec EV (fun _ => Nat → Option EV) (fun _ => none) (fun x _ ih k => @Nat.rec (fun _ => Option EV) (some x) (fun j _ => ih j) k) l
theorem nthF_eq (l : List EV) : ∀ k, nthF l k = nth l k := by
  induction l with
  | nil => intro k; rfl
  | cons x r ih => intro k; cases k with
    | zero => rfl
    | succ j => exact ih j
def ldF (x0 : EV) : TM → Option EV := EV.casesOn (motive_1 := fun _ => TM → Option EV) x0
  (fun _ _ _ => none)
  (fun _ _ => none)
  (fun _ _ => none)
  (fun _ => none)
  (fun i o T => @Option.rec TB (fun _ => Option EV) none (fun B => nthF B.cs o) (getF T i))
  (fun cs _ => nthF cs 0)
  (fun _ _ _ => none)
  (fun _ => none)
  (fun _ _ _ _ _ _ => none)
  (fun _ _ => none)
  (fun _ _ => none)
  (fun _ _ _ _ => none)
  (fun _ _ _ => none)
  (fun _ _ => none)
  (fun _ _ => none)
theorem ldF_eq (T : TM) (a : EV) : ldF a T = ldE T a := by
  cases a <;> try rfl
  · rename_i i o
    show @Option.rec TB (fun _ => Option EV) none (fun B => nthF B.cs o) (getF T i) = ldE T (.mp i o)
    rw [getF_eq]
    simp only [ldE]
    cases T.get i with
    | none => rfl
    | some B => exact nthF_eq _ _
  · exact nthF_eq _ _
def faF (x0 : EV) : Nat → Option EV := EV.casesOn (motive_1 := fun _ => Nat → Option EV) x0
  (fun q0 q1 off => faE off (EV.int q0 q1))
  (fun q0 off => faE off (EV.bool q0))
  (fun q0 off => faE off (EV.str q0))
  (fun off => faE off (EV.nilp))
  (fun i o off => some (.mp i (Nat.add o off)))
  (fun q0 off => faE off (EV.ip q0))
  (fun q0 q1 off => faE off (EV.isl q0 q1))
  (fun off => faE off (EV.zsl))
  (fun q0 q1 q2 q3 q4 off => faE off (EV.msl q0 q1 q2 q3 q4))
  (fun q0 off => faE off (EV.agg q0))
  (fun q0 off => faE off (EV.tup q0))
  (fun q0 q1 q2 off => faE off (EV.fn q0 q1 q2))
  (fun q0 q1 off => faE off (EV.ifc q0 q1))
  (fun q0 off => faE off (EV.raw q0))
  (fun q0 off => faE off (EV.mpp q0))
theorem faF_eq (off : Nat) (a : EV) : faF a off = faE off a := by cases a <;> rfl
def nckF (x0 : EV) : Option EV := EV.casesOn (motive_1 := fun _ => Option EV) x0
  (fun q0 q1 => nckE (EV.int q0 q1))
  (fun q0 => nckE (EV.bool q0))
  (fun q0 => nckE (EV.str q0))
  (nckE (EV.nilp))
  (fun i o => some (.mp i o))
  (fun q0 => nckE (EV.ip q0))
  (fun q0 q1 => nckE (EV.isl q0 q1))
  (nckE (EV.zsl))
  (fun q0 q1 q2 q3 q4 => nckE (EV.msl q0 q1 q2 q3 q4))
  (fun q0 => nckE (EV.agg q0))
  (fun q0 => nckE (EV.tup q0))
  (fun q0 q1 q2 => nckE (EV.fn q0 q1 q2))
  (fun q0 q1 => nckE (EV.ifc q0 q1))
  (fun q0 => nckE (EV.raw q0))
  (fun q0 => nckE (EV.mpp q0))
theorem nckF_eq (a : EV) : nckF a = nckE a := by cases a <;> rfl
def ix3 (x0 : Int) : Nat → Nat → Nat → Nat → Option EV := Int.casesOn (motive := fun _ => Nat → Nat → Nat → Nat → Option EV) x0
  (fun j sz i o n => @Bool.rec (fun _ => Option EV) none (some (.mp i (Nat.add o (Nat.mul j sz)))) (Nat.ble (Nat.succ j) n))
  (fun _ _ _ _ _ => none)
def ix2 (x0 : SX) : Nat → Nat → Nat → Nat → Option EV := SX.casesOn (motive := fun _ => Nat → Nat → Nat → Nat → Option EV) x0
  (fun z sz i o n => ix3 z sz i o n)
  (fun _ _ _ _ _ => none)
  (fun _ _ _ _ _ _ _ _ => none)
  (fun _ _ _ _ _ _ => none)
def ix1 (x0 : EV) : Nat → Nat → Nat → Nat → Option EV := EV.casesOn (motive_1 := fun _ => Nat → Nat → Nat → Nat → Option EV) x0
  (fun _ x sz i o n => ix2 x sz i o n)
  (fun _ _ _ _ _ => none)
  (fun _ _ _ _ _ => none)
  (fun _ _ _ _ => none)
  (fun _ _ _ _ _ _ => none)
  (fun _ _ _ _ _ => none)
  (fun _ _ _ _ _ _ => none)
  (fun _ _ _ _ => none)
  (fun _ _ _ _ _ _ _ _ _ => none)
  (fun _ _ _ _ _ => none)
  (fun _ _ _ _ _ => none)
  (fun _ _ _ _ _ _ _ => none)
  (fun _ _ _ _ _ _ => none)
  (fun _ _ _ _ _ => none)
  (fun _ _ _ _ _ => none)
def ixF (x0 : EV) : Nat → EV → Option EV := EV.casesOn (motive_1 := fun _ => Nat → EV → Option EV) x0
  (fun q0 q1 sz b => ixE sz (EV.int q0 q1) b)
  (fun q0 sz b => ixE sz (EV.bool q0) b)
  (fun q0 sz b => ixE sz (EV.str q0) b)
  (fun sz b => ixE sz (EV.nilp) b)
  (fun q0 q1 sz b => ixE sz (EV.mp q0 q1) b)
  (fun q0 sz b => ixE sz (EV.ip q0) b)
  (fun q0 q1 sz b => ixE sz (EV.isl q0 q1) b)
  (fun sz b => ixE sz (EV.zsl) b)
  (fun i o n _ _ sz b => ix1 b sz i o n)
  (fun q0 sz b => ixE sz (EV.agg q0) b)
  (fun q0 sz b => ixE sz (EV.tup q0) b)
  (fun q0 q1 q2 sz b => ixE sz (EV.fn q0 q1 q2) b)
  (fun q0 q1 sz b => ixE sz (EV.ifc q0 q1) b)
  (fun q0 sz b => ixE sz (EV.raw q0) b)
  (fun q0 sz b => ixE sz (EV.mpp q0) b)
theorem ixF_eq (sz : Nat) (a b : EV) : ixF a sz b = ixE sz a b := by
  cases a <;> try rfl
  rename_i i o n kn q
  cases b <;> try rfl
  rename_i k x
  cases x <;> try rfl
  rename_i z
  cases z <;> try rfl
  rename_i j
  show @Bool.rec (fun _ => Option EV) none (some (.mp i (Nat.add o (Nat.mul j sz)))) (Nat.ble (Nat.succ j) n) = cond (Nat.blt j n) _ none
  show _ = cond (Nat.ble (Nat.succ j) n) _ none
  cases Nat.ble (Nat.succ j) n <;> rfl
def boolF (x0 : EV) : Option EV → Option EV → Option EV := EV.casesOn (motive_1 := fun _ => Option EV → Option EV → Option EV) x0
  (fun _ _ _ _ => none)
  (fun t y n => @Bool.rec (fun _ => Option EV) n y t)
  (fun _ _ _ => none)
  (fun _ _ => none)
  (fun _ _ _ _ => none)
  (fun _ _ _ => none)
  (fun _ _ _ _ => none)
  (fun _ _ => none)
  (fun _ _ _ _ _ _ _ => none)
  (fun _ _ _ => none)
  (fun _ _ _ => none)
  (fun _ _ _ _ _ => none)
  (fun _ _ _ _ => none)
  (fun _ _ _ => none)
  (fun _ _ _ => none)
def grdF (x0 : EV) : Bool → Option EV → Option EV := EV.casesOn (motive_1 := fun _ => Bool → Option EV → Option EV) x0
  (fun q0 q1 w e => grdE w (EV.int q0 q1) e)
  (fun t w e => @Bool.rec (fun _ => Option EV) (@Bool.rec (fun _ => Option EV) e (some (.raw undef)) w) (@Bool.rec (fun _ => Option EV) (some (.raw undef)) e w) t)
  (fun q0 w e => grdE w (EV.str q0) e)
  (fun w e => grdE w (EV.nilp) e)
  (fun q0 q1 w e => grdE w (EV.mp q0 q1) e)
  (fun q0 w e => grdE w (EV.ip q0) e)
  (fun q0 q1 w e => grdE w (EV.isl q0 q1) e)
  (fun w e => grdE w (EV.zsl) e)
  (fun q0 q1 q2 q3 q4 w e => grdE w (EV.msl q0 q1 q2 q3 q4) e)
  (fun q0 w e => grdE w (EV.agg q0) e)
  (fun q0 w e => grdE w (EV.tup q0) e)
  (fun q0 q1 q2 w e => grdE w (EV.fn q0 q1 q2) e)
  (fun q0 q1 w e => grdE w (EV.ifc q0 q1) e)
  (fun q0 w e => grdE w (EV.raw q0) e)
  (fun q0 w e => grdE w (EV.mpp q0) e)
theorem grdF_eq (w : Bool) (a : EV) (e : Option EV) : grdF a w e = grdE w a e := by
  cases a <;> try rfl
  rename_i b
  cases b <;> cases w <;> rfl
theorem andF_eq (a : EV) (e : Option EV) : boolF a e (some (.bool false)) = andE a e := by
  cases a <;> try rfl
  rename_i b
  cases b <;> rfl
theorem orF_eq (a : EV) (e : Option EV) : boolF a (some (.bool true)) e = orE a e := by
  cases a <;> try rfl
  rename_i b
  cases b <;> rfl
theorem pickF_eq (z a b : EV) : boolF z (some a) (some b) = pickE z a b := by
  cases z <;> try rfl
  rename_i t
  cases t <;> rfl
def lenV0 (x0 : EV) : Option EV := EV.casesOn (motive_1 := fun _ => Option EV) x0
  (fun q0 q1 => lenE (EV.int q0 q1))
  (fun q0 => lenE (EV.bool q0))
  (fun q0 => lenE (EV.str q0))
  (lenE (EV.nilp))
  (fun q0 q1 => lenE (EV.mp q0 q1))
  (fun q0 => lenE (EV.ip q0))
  (fun q0 q1 => lenE (EV.isl q0 q1))
  (lenE (EV.zsl))
  (fun _ _ n _ _ => some (.int .i64 (.n (.ofNat n))))
  (fun q0 => lenE (EV.agg q0))
  (fun q0 => lenE (EV.tup q0))
  (fun q0 q1 q2 => lenE (EV.fn q0 q1 q2))
  (fun q0 q1 => lenE (EV.ifc q0 q1))
  (fun q0 => lenE (EV.raw q0))
  (fun q0 => lenE (EV.mpp q0))
theorem lenV0_eq (a : EV) : lenV0 a = lenE a := by cases a <;> rfl
def fldF (x0 : EV) : Nat → Option EV := EV.casesOn (motive_1 := fun _ => Nat → Option EV) x0
  (fun _ _ _ => none)
  (fun _ _ => none)
  (fun _ _ => none)
  (fun _ => none)
  (fun _ _ _ => none)
  (fun _ _ => none)
  (fun _ _ _ => none)
  (fun _ => none)
  (fun _ _ _ _ _ _ => none)
  (fun cs n => nthF cs n)
  (fun _ _ => none)
  (fun _ _ _ _ => none)
  (fun _ _ _ => none)
  (fun _ _ => none)
  (fun _ _ => none)
theorem fldF_eq (n : Nat) (a : EV) : fldF a n = fldE n a := by
  cases a <;> try rfl
  exact nthF_eq _ _
def extF (x0 : EV) : Nat → Option EV := EV.casesOn (motive_1 := fun _ => Nat → Option EV) x0
  (fun _ _ _ => none)
  (fun _ _ => none)
  (fun _ _ => none)
  (fun _ => none)
  (fun _ _ _ => none)
  (fun _ _ => none)
  (fun _ _ _ => none)
  (fun _ => none)
  (fun _ _ _ _ _ _ => none)
  (fun _ _ => none)
  (fun cs n => nthF cs n)
  (fun _ _ _ _ => none)
  (fun _ _ _ => none)
  (fun _ _ => none)
  (fun _ _ => none)
theorem extF_eq (n : Nat) (a : EV) : extF a n = extE n a := by
  cases a <;> try rfl
  exact nthF_eq _ _
def envF (env : Tr EV) (t : Nat) : EV := @Option.rec EV (fun _ => EV) (.raw undef) (fun x => x) (getF env t)
theorem envF_eq (env : Tr EV) (t : Nat) : envF env t = envGet env t := by
  unfold envF envGet
  rw [getF_eq]
  cases env.get t <;> rfl
def evF : Ex → Orc → TM → Tr EV → Option EV := @Ex.rec (fun _ => Orc → TM → Tr EV → Option EV)
  (fun i O T env => some (envF env i))
  (fun v O T env => some (evOf v))
  (fun op _ _ ia ib O T env => (@Option.rec _ (fun _ => Option EV) none (fun x => (@Option.rec _ (fun _ => Option EV) none (fun y => binF x y O op) (ib O T env))) (ia O T env)))
  (fun ne n _ _ ia ib O T env => (@Option.rec _ (fun _ => Option EV) none (fun x => (@Option.rec _ (fun _ => Option EV) none (fun y => eqsE O ne n x y) (ib O T env))) (ia O T env)))
  (fun ne _ _ ia ib O T env => (@Option.rec _ (fun _ => Option EV) none (fun x => (@Option.rec _ (fun _ => Option EV) none (fun y => eqnE ne x y) (ib O T env))) (ia O T env)))
  (fun ne a b ia ib O T env => evE O T env (.eqz ne a b))
  (fun ne _ _ ia ib O T env => (@Option.rec _ (fun _ => Option EV) none (fun x => (@Option.rec _ (fun _ => Option EV) none (fun y => eqbE ne x y) (ib O T env))) (ia O T env)))
  (fun op _ ia O T env => (@Option.rec _ (fun _ => Option EV) none (fun x => unE op x) (ia O T env)))
  (fun k _ ia O T env => (@Option.rec _ (fun _ => Option EV) none (fun x => cvtE O k x) (ia O T env)))
  (fun _ _ _ ic ia ib O T env => (@Option.rec _ (fun _ => Option EV) none (fun z => (@Option.rec _ (fun _ => Option EV) none (fun x => (@Option.rec _ (fun _ => Option EV) none (fun y => boolF z (some x) (some y)) (ib O T env))) (ia O T env))) (ic O T env)))
  (fun _ _ ic ie O T env => (@Option.rec _ (fun _ => Option EV) none (fun x => boolF x (ie O T env) (some (.bool false))) (ic O T env)))
  (fun _ _ ic ie O T env => (@Option.rec _ (fun _ => Option EV) none (fun x => boolF x (some (.bool true)) (ie O T env)) (ic O T env)))
  (fun _ w _ ic ie O T env => (@Option.rec _ (fun _ => Option EV) none (fun x => grdF x w (ie O T env)) (ic O T env)))
  (fun  _ ia O T env => (@Option.rec _ (fun _ => Option EV) none (fun x => ldF x T) (ia O T env)))
  (fun n _ ia O T env => (@Option.rec _ (fun _ => Option EV) none (fun x => ldnE T n x) (ia O T env)))
  (fun n _ ia O T env => (@Option.rec _ (fun _ => Option EV) none (fun x => faF x n) (ia O T env)))
  (fun  _ ia O T env => (@Option.rec _ (fun _ => Option EV) none (fun x => nckF x) (ia O T env)))
  (fun sz _ _ ia ib O T env => (@Option.rec _ (fun _ => Option EV) none (fun x => (@Option.rec _ (fun _ => Option EV) none (fun y => ixF x sz y) (ib O T env))) (ia O T env)))
  (fun  _ _ ia ib O T env => (@Option.rec _ (fun _ => Option EV) none (fun x => (@Option.rec _ (fun _ => Option EV) none (fun y => sidxE x y) (ib O T env))) (ia O T env)))
  (fun  _ ia O T env => (@Option.rec _ (fun _ => Option EV) none (fun x => lenV0 x) (ia O T env)))
  (fun  _ ia O T env => (@Option.rec _ (fun _ => Option EV) none (fun x => strE slenV x) (ia O T env)))
  (fun n _ ia O T env => (@Option.rec _ (fun _ => Option EV) none (fun x => fldF x n) (ia O T env)))
  (fun n m _ ia O T env => (@Option.rec _ (fun _ => Option EV) none (fun x => fldnE n m x) (ia O T env)))
  (fun n _ ia O T env => (@Option.rec _ (fun _ => Option EV) none (fun x => extF x n) (ia O T env)))
  (fun sz _ _ _ _ ia il ih im O T env => (@Option.rec _ (fun _ => Option EV) none (fun x => (@Option.rec _ (fun _ => Option EV) none (fun l => (@Option.rec _ (fun _ => Option EV) none (fun h => (@Option.rec _ (fun _ => Option EV) none (fun q => slcE T sz x l h q) (im O T env))) (ih O T env))) (il O T env))) (ia O T env)))
  (fun _ _ _ ia il ih O T env => (@Option.rec _ (fun _ => Option EV) none (fun x => (@Option.rec _ (fun _ => Option EV) none (fun l => (@Option.rec _ (fun _ => Option EV) none (fun h => sslcE x l h) (ih O T env))) (il O T env))) (ia O T env)))
  (fun ty _ ia O T env => (@Option.rec _ (fun _ => Option EV) none (fun x => some (.ifc ty x)) (ia O T env)))
  (fun O T env => some (.tup []))
  (fun  _ _ ia ib O T env => (@Option.rec _ (fun _ => Option EV) none (fun x => (@Option.rec _ (fun _ => Option EV) none (fun y => csE x y) (ib O T env))) (ia O T env)))
  (fun z pl _ ia O T env => (@Option.rec _ (fun _ => Option EV) none (fun x => bldE z pl x) (ia O T env)))
  (fun f _ _ ia ib O T env => (@Option.rec _ (fun _ => Option EV) none (fun x => (@Option.rec _ (fun _ => Option EV) none (fun y => mkfE f x y) (ib O T env))) (ia O T env)))
  (fun _ _ _ O T env => none)
theorem evF_eq (O : Orc) (T : TM) (env : Tr EV) : ∀ e, evF e O T env = evE O T env e := by
  intro e
  induction e with
  | s i => exact congrArg some (envF_eq env i)
  | k v => rfl
  | nl => rfl
  | call f a _ => rfl
  | eqz ne a b _ _ => rfl
  | bin op a b i0 i1 =>
    show (@Option.rec _ (fun _ => Option EV) none (fun x => (@Option.rec _ (fun _ => Option EV) none (fun y => binF x y O op) (evF b O T env))) (evF a O T env)) = _
    simp only [i0, i1, binF_eq, ldF_eq, faF_eq, nckF_eq, ixF_eq, grdF_eq, andF_eq, orF_eq, pickF_eq, lenV0_eq, fldF_eq, extF_eq, ob_eq, evE]
  | eqs ne n a b i0 i1 =>
    show (@Option.rec _ (fun _ => Option EV) none (fun x => (@Option.rec _ (fun _ => Option EV) none (fun y => eqsE O ne n x y) (evF b O T env))) (evF a O T env)) = _
    simp only [i0, i1, binF_eq, ldF_eq, faF_eq, nckF_eq, ixF_eq, grdF_eq, andF_eq, orF_eq, pickF_eq, lenV0_eq, fldF_eq, extF_eq, ob_eq, evE]
  | eqn ne a b i0 i1 =>
    show (@Option.rec _ (fun _ => Option EV) none (fun x => (@Option.rec _ (fun _ => Option EV) none (fun y => eqnE ne x y) (evF b O T env))) (evF a O T env)) = _
    simp only [i0, i1, binF_eq, ldF_eq, faF_eq, nckF_eq, ixF_eq, grdF_eq, andF_eq, orF_eq, pickF_eq, lenV0_eq, fldF_eq, extF_eq, ob_eq, evE]
  | eqb ne a b i0 i1 =>
    show (@Option.rec _ (fun _ => Option EV) none (fun x => (@Option.rec _ (fun _ => Option EV) none (fun y => eqbE ne x y) (evF b O T env))) (evF a O T env)) = _
    simp only [i0, i1, binF_eq, ldF_eq, faF_eq, nckF_eq, ixF_eq, grdF_eq, andF_eq, orF_eq, pickF_eq, lenV0_eq, fldF_eq, extF_eq, ob_eq, evE]
  | un op a i0 =>
    show (@Option.rec _ (fun _ => Option EV) none (fun x => unE op x) (evF a O T env)) = _
    simp only [i0, binF_eq, ldF_eq, faF_eq, nckF_eq, ixF_eq, grdF_eq, andF_eq, orF_eq, pickF_eq, lenV0_eq, fldF_eq, extF_eq, ob_eq, evE]
  | cvt k a i0 =>
    show (@Option.rec _ (fun _ => Option EV) none (fun x => cvtE O k x) (evF a O T env)) = _
    simp only [i0, binF_eq, ldF_eq, faF_eq, nckF_eq, ixF_eq, grdF_eq, andF_eq, orF_eq, pickF_eq, lenV0_eq, fldF_eq, extF_eq, ob_eq, evE]
  | pick c a b i0 i1 i2 =>
    show (@Option.rec _ (fun _ => Option EV) none (fun z => (@Option.rec _ (fun _ => Option EV) none (fun x => (@Option.rec _ (fun _ => Option EV) none (fun y => boolF z (some x) (some y)) (evF b O T env))) (evF a O T env))) (evF c O T env)) = _
    simp only [i0, i1, i2, binF_eq, ldF_eq, faF_eq, nckF_eq, ixF_eq, grdF_eq, andF_eq, orF_eq, pickF_eq, lenV0_eq, fldF_eq, extF_eq, ob_eq, evE]
  | and c e i0 i1 =>
    show (@Option.rec _ (fun _ => Option EV) none (fun x => boolF x (evF e O T env) (some (.bool false))) (evF c O T env)) = _
    simp only [i0, i1, binF_eq, ldF_eq, faF_eq, nckF_eq, ixF_eq, grdF_eq, andF_eq, orF_eq, pickF_eq, lenV0_eq, fldF_eq, extF_eq, ob_eq, evE]
  | or c e i0 i1 =>
    show (@Option.rec _ (fun _ => Option EV) none (fun x => boolF x (some (.bool true)) (evF e O T env)) (evF c O T env)) = _
    simp only [i0, i1, binF_eq, ldF_eq, faF_eq, nckF_eq, ixF_eq, grdF_eq, andF_eq, orF_eq, pickF_eq, lenV0_eq, fldF_eq, extF_eq, ob_eq, evE]
  | grd c w e i0 i1 =>
    show (@Option.rec _ (fun _ => Option EV) none (fun x => grdF x w (evF e O T env)) (evF c O T env)) = _
    simp only [i0, i1, binF_eq, ldF_eq, faF_eq, nckF_eq, ixF_eq, grdF_eq, andF_eq, orF_eq, pickF_eq, lenV0_eq, fldF_eq, extF_eq, ob_eq, evE]
  | ld a i0 =>
    show (@Option.rec _ (fun _ => Option EV) none (fun x => ldF x T) (evF a O T env)) = _
    simp only [i0, binF_eq, ldF_eq, faF_eq, nckF_eq, ixF_eq, grdF_eq, andF_eq, orF_eq, pickF_eq, lenV0_eq, fldF_eq, extF_eq, ob_eq, evE]
  | ldn n a i0 =>
    show (@Option.rec _ (fun _ => Option EV) none (fun x => ldnE T n x) (evF a O T env)) = _
    simp only [i0, binF_eq, ldF_eq, faF_eq, nckF_eq, ixF_eq, grdF_eq, andF_eq, orF_eq, pickF_eq, lenV0_eq, fldF_eq, extF_eq, ob_eq, evE]
  | fa n a i0 =>
    show (@Option.rec _ (fun _ => Option EV) none (fun x => faF x n) (evF a O T env)) = _
    simp only [i0, binF_eq, ldF_eq, faF_eq, nckF_eq, ixF_eq, grdF_eq, andF_eq, orF_eq, pickF_eq, lenV0_eq, fldF_eq, extF_eq, ob_eq, evE]
  | nck a i0 =>
    show (@Option.rec _ (fun _ => Option EV) none (fun x => nckF x) (evF a O T env)) = _
    simp only [i0, binF_eq, ldF_eq, faF_eq, nckF_eq, ixF_eq, grdF_eq, andF_eq, orF_eq, pickF_eq, lenV0_eq, fldF_eq, extF_eq, ob_eq, evE]
  | ix n a b i0 i1 =>
    show (@Option.rec _ (fun _ => Option EV) none (fun x => (@Option.rec _ (fun _ => Option EV) none (fun y => ixF x n y) (evF b O T env))) (evF a O T env)) = _
    simp only [i0, i1, binF_eq, ldF_eq, faF_eq, nckF_eq, ixF_eq, grdF_eq, andF_eq, orF_eq, pickF_eq, lenV0_eq, fldF_eq, extF_eq, ob_eq, evE]
  | sidx a b i0 i1 =>
    show (@Option.rec _ (fun _ => Option EV) none (fun x => (@Option.rec _ (fun _ => Option EV) none (fun y => sidxE x y) (evF b O T env))) (evF a O T env)) = _
    simp only [i0, i1, binF_eq, ldF_eq, faF_eq, nckF_eq, ixF_eq, grdF_eq, andF_eq, orF_eq, pickF_eq, lenV0_eq, fldF_eq, extF_eq, ob_eq, evE]
  | len a i0 =>
    show (@Option.rec _ (fun _ => Option EV) none (fun x => lenV0 x) (evF a O T env)) = _
    simp only [i0, binF_eq, ldF_eq, faF_eq, nckF_eq, ixF_eq, grdF_eq, andF_eq, orF_eq, pickF_eq, lenV0_eq, fldF_eq, extF_eq, ob_eq, evE]
  | slen a i0 =>
    show (@Option.rec _ (fun _ => Option EV) none (fun x => strE slenV x) (evF a O T env)) = _
    simp only [i0, binF_eq, ldF_eq, faF_eq, nckF_eq, ixF_eq, grdF_eq, andF_eq, orF_eq, pickF_eq, lenV0_eq, fldF_eq, extF_eq, ob_eq, evE]
  | fld n a i0 =>
    show (@Option.rec _ (fun _ => Option EV) none (fun x => fldF x n) (evF a O T env)) = _
    simp only [i0, binF_eq, ldF_eq, faF_eq, nckF_eq, ixF_eq, grdF_eq, andF_eq, orF_eq, pickF_eq, lenV0_eq, fldF_eq, extF_eq, ob_eq, evE]
  | fldn n m a i0 =>
    show (@Option.rec _ (fun _ => Option EV) none (fun x => fldnE n m x) (evF a O T env)) = _
    simp only [i0, binF_eq, ldF_eq, faF_eq, nckF_eq, ixF_eq, grdF_eq, andF_eq, orF_eq, pickF_eq, lenV0_eq, fldF_eq, extF_eq, ob_eq, evE]
  | ext n a i0 =>
    show (@Option.rec _ (fun _ => Option EV) none (fun x => extF x n) (evF a O T env)) = _
    simp only [i0, binF_eq, ldF_eq, faF_eq, nckF_eq, ixF_eq, grdF_eq, andF_eq, orF_eq, pickF_eq, lenV0_eq, fldF_eq, extF_eq, ob_eq, evE]
  | slc n a b c d i0 i1 i2 i3 =>
    show (@Option.rec _ (fun _ => Option EV) none (fun x => (@Option.rec _ (fun _ => Option EV) none (fun l => (@Option.rec _ (fun _ => Option EV) none (fun h => (@Option.rec _ (fun _ => Option EV) none (fun q => slcE T n x l h q) (evF d O T env))) (evF c O T env))) (evF b O T env))) (evF a O T env)) = _
    simp only [i0, i1, i2, i3, binF_eq, ldF_eq, faF_eq, nckF_eq, ixF_eq, grdF_eq, andF_eq, orF_eq, pickF_eq, lenV0_eq, fldF_eq, extF_eq, ob_eq, evE]
  | sslc a b c i0 i1 i2 =>
    show (@Option.rec _ (fun _ => Option EV) none (fun x => (@Option.rec _ (fun _ => Option EV) none (fun l => (@Option.rec _ (fun _ => Option EV) none (fun h => sslcE x l h) (evF c O T env))) (evF b O T env))) (evF a O T env)) = _
    simp only [i0, i1, i2, binF_eq, ldF_eq, faF_eq, nckF_eq, ixF_eq, grdF_eq, andF_eq, orF_eq, pickF_eq, lenV0_eq, fldF_eq, extF_eq, ob_eq, evE]
  | ifc t a i0 =>
    show (@Option.rec _ (fun _ => Option EV) none (fun x => some (.ifc t x)) (evF a O T env)) = _
    simp only [i0, binF_eq, ldF_eq, faF_eq, nckF_eq, ixF_eq, grdF_eq, andF_eq, orF_eq, pickF_eq, lenV0_eq, fldF_eq, extF_eq, ob_eq, evE]
  | cs a b i0 i1 =>
    show (@Option.rec _ (fun _ => Option EV) none (fun x => (@Option.rec _ (fun _ => Option EV) none (fun y => csE x y) (evF b O T env))) (evF a O T env)) = _
    simp only [i0, i1, binF_eq, ldF_eq, faF_eq, nckF_eq, ixF_eq, grdF_eq, andF_eq, orF_eq, pickF_eq, lenV0_eq, fldF_eq, extF_eq, ob_eq, evE]
  | bld z pl a i0 =>
    show (@Option.rec _ (fun _ => Option EV) none (fun x => bldE z pl x) (evF a O T env)) = _
    simp only [i0, binF_eq, ldF_eq, faF_eq, nckF_eq, ixF_eq, grdF_eq, andF_eq, orF_eq, pickF_eq, lenV0_eq, fldF_eq, extF_eq, ob_eq, evE]
  | mkf f a b i0 i1 =>
    show (@Option.rec _ (fun _ => Option EV) none (fun x => (@Option.rec _ (fun _ => Option EV) none (fun y => mkfE f x y) (evF b O T env))) (evF a O T env)) = _
    simp only [i0, i1, binF_eq, ldF_eq, faF_eq, nckF_eq, ixF_eq, grdF_eq, andF_eq, orF_eq, pickF_eq, lenV0_eq, fldF_eq, extF_eq, ob_eq, evE]
def frN (n : Nat) (k : Nat → RS) : RS := @Nat.rec (fun _ => RS) (k 0) (fun m _ => k (Nat.succ m)) n
theorem frN_eq (n : Nat) (k : Nat → RS) : frN n k = k n := by cases n <;> rfl
def fr2 (x0 : Int) : IntKind → (EV → RS) → RS := Int.casesOn (motive := fun _ => IntKind → (EV → RS) → RS) x0
  (fun n kd k => frN n fun n => k (.int kd (.n (.ofNat n))))
  (fun n kd k => frN n fun n => k (.int kd (.n (.negSucc n))))
def fr1 (x0 : SX) : IntKind → (EV → RS) → RS := SX.casesOn (motive := fun _ => IntKind → (EV → RS) → RS) x0
  (fun z kd k => fr2 z kd k)
  (fun q0 kd k => k (.int kd (SX.v q0)))
  (fun q0 q1 q2 q3 kd k => k (.int kd (SX.b q0 q1 q2 q3)))
  (fun q0 q1 kd k => k (.int kd (SX.c q0 q1)))
def frF (x0 : EV) : (EV → RS) → RS := EV.casesOn (motive_1 := fun _ => (EV → RS) → RS) x0
  (fun kd x k => fr1 x kd k)
  (fun b k => @Bool.rec (fun _ => RS) (k (.bool false)) (k (.bool true)) b)
  (fun q0 k => k (EV.str q0))
  (fun k => k (EV.nilp))
  (fun q0 q1 k => k (EV.mp q0 q1))
  (fun q0 k => k (EV.ip q0))
  (fun q0 q1 k => k (EV.isl q0 q1))
  (fun k => k (EV.zsl))
  (fun q0 q1 q2 q3 q4 k => k (EV.msl q0 q1 q2 q3 q4))
  (fun q0 k => k (EV.agg q0))
  (fun q0 k => k (EV.tup q0))
  (fun q0 q1 q2 k => k (EV.fn q0 q1 q2))
  (fun q0 q1 k => k (EV.ifc q0 q1))
  (fun q0 k => k (EV.raw q0))
  (fun q0 k => k (EV.mpp q0))
theorem frF_eq (v : EV) (k : EV → RS) : frF v k = k v := by
  cases v <;> try rfl
  · rename_i kd x
    cases x <;> try rfl
    rename_i z
    cases z
    · exact frN_eq _ (fun n => k (.int kd (.n (.ofNat n))))
    · exact frN_eq _ (fun n => k (.int kd (.n (.negSucc n))))
  · rename_i b; cases b <;> rfl
def puF (env : Tr EV) (d : Nat) (v : EV) (k : Tr EV → RS) : RS := frF v fun v => @Option.rec _ (fun _ => RS) (.no []) k (putF env d (some v))
theorem puF_eq (env : Tr EV) (d : Nat) (v : EV) (k : Tr EV → RS) : puF env d v k = putE env d v k := by
  unfold puF putE
  rw [frF_eq, frc_eq, putF_eq]
  cases env.put d (some v) <;> rfl
def puO (env : Tr EV) (d : Option Nat) (v : EV) (k : Tr EV → RS) : RS := @Option.rec _ (fun _ => RS) (k env) (fun d => puF env d v k) d
theorem puO_eq (env : Tr EV) (d : Option Nat) (v : EV) (k : Tr EV → RS) : puO env d v k = putO env d v k := by
  cases d with
  | none => rfl
  | some d => exact puF_eq _ _ _ _
def of0F (x0 : Operand) : Tr EV → EV := Operand.casesOn (motive := fun _ => Tr EV → EV) x0
  (fun t env => envF env t)
  (fun q0 env => ofE env (Operand.const q0))
  (fun q0 env => ofE env (Operand.global q0))
  (fun q0 env => ofE env (Operand.func q0))
def ofF (env : Tr EV) (x : Operand) : EV := of0F x env
theorem ofF_eq (env : Tr EV) (x : Operand) : ofF env x = ofE env x := by
  cases x <;> try rfl
  exact envF_eq _ _
theorem ofF_fun (env : Tr EV) : ofF env = ofE env := funext (ofF_eq env)
def argF : List EV → Nat → Tr EV → Option (Tr EV) := @List.rec EV (fun _ => Nat → Tr EV → Option (Tr EV)) (fun _ env => some env) (fun a _ ih i env => @Option.rec _ (fun _ => Option (Tr EV)) none (fun env => ih (Nat.succ i) env) (putF env i (some a)))
theorem argF_eq : ∀ (l : List EV) (i : Nat) (env : Tr EV), argF l i env = argsE i l env := by
  intro l
  induction l with
  | nil => intro i env; rfl
  | cons a r ih =>
    intro i env
    show @Option.rec _ (fun _ => Option (Tr EV)) none (fun env => argF r (Nat.succ i) env) (putF env i (some a)) = _
    simp only [argsE, putF_eq]
    cases env.put i (some a) with
    | none => rfl
    | some e => exact ih _ _
def bqM (x0 : EV) : Nat → Nat → Bool := EV.casesOn (motive_1 := fun _ => Nat → Nat → Bool) x0
  (fun _ _ _ _ => false)
  (fun _ _ _ => false)
  (fun _ _ _ => false)
  (fun _ _ => false)
  (fun j p i o => anB (Nat.beq i j) (Nat.beq o p))
  (fun _ _ _ => false)
  (fun _ _ _ _ => false)
  (fun _ _ => false)
  (fun _ _ _ _ _ _ _ => false)
  (fun _ _ _ => false)
  (fun _ _ _ => false)
  (fun _ _ _ _ _ => false)
  (fun _ _ _ _ => false)
  (fun _ _ _ => false)
  (fun _ _ _ => false)
def bqB (x0 : EV) : Bool → Bool := EV.casesOn (motive_1 := fun _ => Bool → Bool) x0
  (fun _ _ _ => false)
  (fun u t => @Bool.rec (fun _ => Bool) (notF u) u t)
  (fun _ _ => false)
  (fun _ => false)
  (fun _ _ _ => false)
  (fun _ _ => false)
  (fun _ _ _ => false)
  (fun _ => false)
  (fun _ _ _ _ _ _ => false)
  (fun _ _ => false)
  (fun _ _ => false)
  (fun _ _ _ _ => false)
  (fun _ _ _ => false)
  (fun _ _ => false)
  (fun _ _ => false)
def bqF (x0 : EV) : EV → Bool := EV.casesOn (motive_1 := fun _ => EV → Bool) x0
  (fun q0 q1 b => EV.beq (EV.int q0 q1) b)
  (fun t b => bqB b t)
  (fun q0 b => EV.beq (EV.str q0) b)
  (fun b => EV.beq (EV.nilp) b)
  (fun i o b => bqM b i o)
  (fun q0 b => EV.beq (EV.ip q0) b)
  (fun q0 q1 b => EV.beq (EV.isl q0 q1) b)
  (fun b => EV.beq (EV.zsl) b)
  (fun q0 q1 q2 q3 q4 b => EV.beq (EV.msl q0 q1 q2 q3 q4) b)
  (fun q0 b => EV.beq (EV.agg q0) b)
  (fun q0 b => EV.beq (EV.tup q0) b)
  (fun q0 q1 q2 b => EV.beq (EV.fn q0 q1 q2) b)
  (fun q0 q1 b => EV.beq (EV.ifc q0 q1) b)
  (fun q0 b => EV.beq (EV.raw q0) b)
  (fun q0 b => EV.beq (EV.mpp q0) b)
theorem bqF_eq (a b : EV) : bqF a b = a.beq b := by
  cases a <;> try rfl
  · rename_i t
    cases b <;> try (simp only [EV.beq]; rfl)
    rename_i u
    simp only [EV.beq]
    cases t <;> cases u <;> rfl
  · rename_i i o
    cases b <;> try (simp only [EV.beq]; rfl)
    rename_i j p
    simp only [EV.beq]
    exact anB_eq _ _
section
variable (cf : Cfg) (rec : Fi → ES → Tr EV → TM → Nat → RS)
def resF (fi : Fi) (env : Tr EV) (T : TM) (nx : Nat) : RC := @Option.rec _ (fun _ => RC) (.no [1]) (fun v => .ok v T nx) (evF fi.res cf.O T env)
theorem resF_eq (fi : Fi) (env : Tr EV) (T : TM) (nx : Nat) : resF cf fi env T nx = resR cf fi env T nx := by
  unfold resF resR
  rw [evF_eq]
  cases evE cf.O T env fi.res <;> rfl
def codeF (fi : Fi) (f : FuncId) (args : List EV) (T : TM) (nx : Nat) : RC := @Bool.rec (fun _ => RC) (.no [f, 4]) (@Option.rec _ (fun _ => RC) (.no [f, 3]) (fun env =>
  RS.casesOn (motive := fun _ => RC) (rec fi fi.st env T nx) (fun w => .no (f :: w)) (fun o env T nx => Out.casesOn (motive := fun _ => RC) o (resF cf fi env T nx) (fun _ => .no [f, 2]) (resF cf fi env T nx))) (argF args 0 env0)) (Nat.ble (lenF args) fi.n)
theorem codeF_eq (fi : Fi) (f : FuncId) (args : List EV) (T : TM) (nx : Nat) : codeF cf rec fi f args T nx = codeR cf rec fi f args T nx := by
  unfold codeF codeR
  rw [argF_eq, lenF_eq]
  cases Nat.ble (lenL args) fi.n with
  | false => rfl
  | true =>
    cases argsE 0 args env0 with
    | none => rfl
    | some env =>
      show RS.casesOn (motive := fun _ => RC) (rec fi fi.st env T nx) _ _ = _
      simp only [cond]
      cases rec fi fi.st env T nx with
      | no w => rfl
      | ok o env T nx => cases o <;> first | rfl | exact resF_eq cf fi env T nx
def callF (f : FuncId) (args : List EV) (T : TM) (nx : Nat) : RC := @Option.rec _ (fun _ => RC) (.no [f, 5]) (fun e => Fe.casesOn (motive := fun _ => RC) e (fun pre fi => @Option.rec _ (fun _ => RC) (codeF cf rec fi f args T nx) (fun v => .ok v T nx) (pre args)) (fun g => g args T nx)) (cf.tbl f)
theorem callF_eq (f : FuncId) (args : List EV) (T : TM) (nx : Nat) : callF cf rec f args T nx = callR cf rec f args T nx := by
  unfold callF callR
  cases cf.tbl f with
  | none => rfl
  | some e => cases e with
    | prim g => rfl
    | code pre fi =>
      show @Option.rec _ (fun _ => RC) (codeF cf rec fi f args T nx) (fun v => RC.ok v T nx) (pre args) = _
      cases h : pre args with
      | some v => simp only [h]
      | none => simp only [h]; exact codeF_eq _ _ _ _ _ _ _
end
def efF (x0 : Eff) : Cfg → (Fi → ES → Tr EV → TM → Nat → RS) → Bool → Tr EV → TM → Nat → RC := Eff.casesOn (motive := fun _ => Cfg → (Fi → ES → Tr EV → TM → Nat → RS) → Bool → Tr EV → TM → Nat → RC) x0
  (fun q0 q1 _ _ mu env T nx => effE mu env T nx (Eff.box q0 q1))
  (fun q0 q1 _ _ mu env T nx => effE mu env T nx (Eff.alloc q0 q1))
  (fun q0 q1 q2 _ _ mu env T nx => effE mu env T nx (Eff.store q0 q1 q2))
  (fun q0 q1 q2 q3 q4 _ _ mu env T nx => effE mu env T nx (Eff.bslice q0 q1 q2 q3 q4))
  (fun q0 q1 q2 q3 q4 q5 _ _ mu env T nx => effE mu env T nx (Eff.make q0 q1 q2 q3 q4 q5))
  (fun q0 q1 q2 q3 q4 _ _ mu env T nx => effE mu env T nx (Eff.app q0 q1 q2 q3 q4))
  (fun f args cf rec _ env T nx => callF cf rec f (mapF (ofF env) args) T nx)
  (fun q args cf rec _ env T nx => match envF env q with | .fn (.func f) first caps => callF cf rec f (apL (apL first (mapF (ofF env) args)) caps) T nx | _ => .no [6])
  (fun q0 q1 q2 _ _ mu env T nx => effE mu env T nx (Eff.var q0 q1 q2))
  (fun q0 q1 q2 _ _ mu env T nx => effE mu env T nx (Eff.clr q0 q1 q2))
  (fun q0 q1 q2 _ _ mu env T nx => effE mu env T nx (Eff.cpy q0 q1 q2))
section
variable (cf : Cfg) (rec : Fi → ES → Tr EV → TM → Nat → RS)
theorem efF_eq (mu : Bool) (env : Tr EV) (T : TM) (nx : Nat) (e : Eff) : efF e cf rec mu env T nx = effR cf rec mu env T nx e := by
  cases e <;> try rfl
  · rename_i f args
    show callF cf rec f (mapF (ofF env) args) T nx = _
    rw [callF_eq, ofF_fun, mapF_eq]; rfl
  · rename_i q args
    show (match envF env q with | .fn (.func f) first caps => callF cf rec f (apL (apL first (mapF (ofF env) args)) caps) T nx | _ => .no [6]) = _
    simp only [envF_eq, callF_eq, ofF_fun, mapF_eq, effR]
    cases envGet env q <;> try rfl
    all_goals (rename_i g _ _; cases g <;> rfl)
end
def muD (mu : List Nat) (d : Option Nat) : Bool := @Option.rec _ (fun _ => Bool) false (fun d => memF mu d) d
theorem muD_eq (mu : List Nat) (d : Option Nat) : muD mu d = (d.map fun d => mu.contains d).getD false := by
  cases d with
  | none => rfl
  | some d => exact memF_eq mu d
def sp1F (x0 : Sp) : (Tr EV → TM → Nat → RS) → Cfg → (Fi → ES → Tr EV → TM → Nat → RS) → List Nat → Tr EV → TM → Nat → RS := Sp.casesOn (motive := fun _ => (Tr EV → TM → Nat → RS) → Cfg → (Fi → ES → Tr EV → TM → Nat → RS) → List Nat → Tr EV → TM → Nat → RS) x0
  (fun d e ih cf _ _ env T nx => @Option.rec _ (fun _ => RS) (.no [5000 + d]) (fun v => puF env d v fun env => ih env T nx) (evF e cf.O T env))
  (fun d e ih _ _ _ env T nx => @Option.rec _ (fun _ => RS) (.no [5000 + d]) (fun v => puF env d v fun env => ih env T nx) (freshE env e))
  (fun d e ih cf _ _ env T nx => @Option.rec _ (fun _ => RS) (.no [6000 + d]) (fun v => @Bool.rec (fun _ => RS) (.no [6000 + d]) (ih env T nx) (bqF v (envF env d))) (evF e cf.O T env))
  (fun d e ih _ _ _ env T nx => @Option.rec _ (fun _ => RS) (.no [6000 + d]) (fun v => @Bool.rec (fun _ => RS) (.no [6000 + d]) (ih env T nx) (bqF v (envF env d))) (freshE env e))
  (fun d e ih cf rec mu env T nx => RC.casesOn (motive := fun _ => RS) (efF e cf rec (muD mu d) env T nx) (fun w => .no ((7000 + d.getD 999) :: w)) (fun v T nx => puO env d v fun env => ih env T nx))
  (fun d dj wt e ih cf rec mu env T nx => @Option.rec _ (fun _ => RS) (.no [8000 + dj]) (fun b => @Bool.rec (fun _ => RS) (puO env d (.raw undef) fun env => ih env T nx) (RC.casesOn (motive := fun _ => RS) (efF e cf rec (muD mu d) env T nx) (fun w => .no ((7000 + d.getD 999) :: w)) (fun v T nx => puO env d v fun env => ih env T nx)) b) (gOnE wt (envF env dj)))
  (fun o ih cf _ _ env T nx => RC.casesOn (motive := fun _ => RS) (cf.opr o env T nx) (fun w => .no ((9000 + o.dst.getD 999) :: w)) (fun v T nx => puO env o.dst v fun env => ih env T nx))
def spF (l : List Sp) : Cfg → (Fi → ES → Tr EV → TM → Nat → RS) → List Nat → Tr EV → TM → Nat → RS := @List.rec Sp (fun _ => Cfg → (Fi → ES → Tr EV → TM → Nat → RS) → List Nat → Tr EV → TM → Nat → RS) (fun _ _ _ env T nx => .ok .norm env T nx) (fun x _ ih cf rec mu env T nx => sp1F x (ih cf rec mu) cf rec mu env T nx) l
section
variable (cf : Cfg) (rec : Fi → ES → Tr EV → TM → Nat → RS)
theorem spF_eq (mu : List Nat) : ∀ (l : List Sp) (env : Tr EV) (T : TM) (nx : Nat), spF l cf rec mu env T nx = spR cf rec (fun d => mu.contains d) l env T nx := by
  intro l
  induction l with
  | nil => intro env T nx; rfl
  | cons x r ih =>
    intro env T nx
    have hk : ∀ T nx, (fun env => spF r cf rec mu env T nx) = (fun env => spR cf rec (fun d => mu.contains d) r env T nx) := fun T nx => funext fun env => ih env T nx
    cases x with
    | rd d e =>
      show @Option.rec _ (fun _ => RS) (.no [5000 + d]) (fun v => puF env d v fun env => spF r cf rec mu env T nx) (evF e cf.O T env) = _
      simp only [spR, evF_eq, puF_eq, hk]
      cases evE cf.O T env e <;> rfl
    | fr d e =>
      show @Option.rec _ (fun _ => RS) (.no [5000 + d]) (fun v => puF env d v fun env => spF r cf rec mu env T nx) (freshE env e) = _
      simp only [spR, puF_eq, hk]
      cases freshE env e <;> rfl
    | ck d e =>
      show @Option.rec _ (fun _ => RS) (.no [6000 + d]) (fun v => @Bool.rec (fun _ => RS) (.no [6000 + d]) (spF r cf rec mu env T nx) (bqF v (envF env d))) (evF e cf.O T env) = _
      simp only [spR, evF_eq, envF_eq, bqF_eq, ih]
      cases evE cf.O T env e with
      | none => rfl
      | some v => simp only; cases v.beq (envGet env d) <;> rfl
    | cf d e =>
      show @Option.rec _ (fun _ => RS) (.no [6000 + d]) (fun v => @Bool.rec (fun _ => RS) (.no [6000 + d]) (spF r cf rec mu env T nx) (bqF v (envF env d))) (freshE env e) = _
      simp only [spR, envF_eq, bqF_eq, ih]
      cases freshE env e with
      | none => rfl
      | some v => simp only; cases v.beq (envGet env d) <;> rfl
    | hd d e =>
      show RC.casesOn (motive := fun _ => RS) (efF e cf rec (muD mu d) env T nx) (fun w => .no ((7000 + d.getD 999) :: w)) (fun v T nx => puO env d v fun env => spF r cf rec mu env T nx) = _
      simp only [spR, efF_eq, puO_eq, hk, muD_eq]
      cases effR cf rec ((d.map fun d => mu.contains d).getD false) env T nx e <;> rfl
    | hg d dj wt e =>
      show @Option.rec _ (fun _ => RS) (.no [8000 + dj]) (fun b => @Bool.rec (fun _ => RS) (puO env d (.raw undef) fun env => spF r cf rec mu env T nx) (RC.casesOn (motive := fun _ => RS) (efF e cf rec (muD mu d) env T nx) (fun w => .no ((7000 + d.getD 999) :: w)) (fun v T nx => puO env d v fun env => spF r cf rec mu env T nx)) b) (gOnE wt (envF env dj)) = _
      simp only [spR, efF_eq, puO_eq, hk, envF_eq, muD_eq]
      cases gOnE wt (envGet env dj) with
      | none => rfl
      | some b =>
        cases b with
        | false => rfl
        | true => simp only; cases effR cf rec ((d.map fun d => mu.contains d).getD false) env T nx e <;> rfl
    | ho o =>
      show RC.casesOn (motive := fun _ => RS) (cf.opr o env T nx) (fun w => .no ((9000 + o.dst.getD 999) :: w)) (fun v T nx => puO env o.dst v fun env => spF r cf rec mu env T nx) = _
      simp only [spR, puO_eq, hk]
      cases cf.opr o env T nx <;> rfl
end
def muF (l : List Ex) : Orc → TM → Tr EV → Bool := @List.rec Ex (fun _ => Orc → TM → Tr EV → Bool) (fun _ _ _ => true) (fun e _ ih O T env => @Option.rec _ (fun _ => Bool) false (fun _ => ih O T env) (evF e O T env)) l
theorem muF_eq (cf : Cfg) (T : TM) (env : Tr EV) : ∀ l, muF l cf.O T env = mustE cf T env l := by
  intro l
  induction l with
  | nil => rfl
  | cons e r ih =>
    show @Option.rec _ (fun _ => Bool) false (fun _ => muF r cf.O T env) (evF e cf.O T env) = _
    simp only [mustE, evF_eq, ih]
    cases evE cf.O T env e <;> rfl
def seF (l : List (Nat × Ex)) : Orc → TM → Nat → Tr EV → Tr EV → RS := @List.rec (Nat × Ex) (fun _ => Orc → TM → Nat → Tr EV → Tr EV → RS) (fun _ T nx _ env => .ok .norm env T nx) (fun p _ ih O T nx env0 env => @Option.rec _ (fun _ => RS) (.no [2000 + p.1]) (fun v => puF env p.1 v (ih O T nx env0)) (evF p.2 O T env0)) l
theorem seF_eq (cf : Cfg) (T : TM) (nx : Nat) (env0 : Tr EV) : ∀ l env, seF l cf.O T nx env0 env = setsE cf T nx env0 l env := by
  intro l
  induction l with
  | nil => intro env; rfl
  | cons p r ih =>
    intro env
    obtain ⟨i, e⟩ := p
    have hk : seF r cf.O T nx env0 = (fun env => setsE cf T nx env0 r env) := funext ih
    show @Option.rec _ (fun _ => RS) (.no [2000 + i]) (fun v => puF env i v (seF r cf.O T nx env0)) (evF e cf.O T env0) = _
    simp only [setsE, evF_eq, puF_eq, hk]
    cases evE cf.O T env0 e <;> rfl
def iteF (x0 : EV) : RS → RS → RS := EV.casesOn (motive_1 := fun _ => RS → RS → RS) x0
  (fun _ _ _ _ => .no [3000])
  (fun t y n => @Bool.rec (fun _ => RS) n y t)
  (fun _ _ _ => .no [3000])
  (fun _ _ => .no [3000])
  (fun _ _ _ _ => .no [3000])
  (fun _ _ _ => .no [3000])
  (fun _ _ _ _ => .no [3000])
  (fun _ _ => .no [3000])
  (fun _ _ _ _ _ _ _ => .no [3000])
  (fun _ _ _ => .no [3000])
  (fun _ _ _ => .no [3000])
  (fun _ _ _ _ _ => .no [3000])
  (fun _ _ _ _ => .no [3000])
  (fun _ _ _ => .no [3000])
  (fun _ _ _ => .no [3000])
def steF (x0 : ES) : Cfg → (Fi → ES → Tr EV → TM → Nat → RS) → Fi → Tr EV → TM → Nat → RS := ES.casesOn (motive := fun _ => Cfg → (Fi → ES → Tr EV → TM → Nat → RS) → Fi → Tr EV → TM → Nat → RS) x0
  (fun _ _ _ env T nx => .ok .norm env T nx)
  (fun outs must cf _ _ env T nx => @Bool.rec (fun _ => RS) (.no [2999]) (seF outs cf.O T nx env env) (muF must cf.O T env))
  (fun d e cf rec fi env T nx => RC.casesOn (motive := fun _ => RS) (efF e cf rec (muD fi.mu d) env T nx) (fun w => .no ((1000 + d.getD 999) :: w)) (fun v T nx => puO env d v fun env => .ok .norm env T nx))
  (fun o cf rec fi env T nx => stepR cf rec fi (.eff o) env T nx)
  (fun a b _ rec fi env T nx => RS.casesOn (motive := fun _ => RS) (rec fi a env T nx) (fun w => .no w) (fun o env T nx => Out.casesOn (motive := fun _ => RS) o (rec fi b env T nx) (fun i => .ok (.exit i) env T nx) (.ok .ret env T nx)))
  (fun c a b cf rec fi env T nx => @Option.rec _ (fun _ => RS) (.no [3000]) (fun v => iteF v (rec fi a env T nx) (rec fi b env T nx)) (evF c cf.O T env))
  (fun id a _ rec fi env T nx => RS.casesOn (motive := fun _ => RS) (rec fi a env T nx) (fun w => .no w) (fun o env T nx => Out.casesOn (motive := fun _ => RS) o (.ok .norm env T nx) (fun i => @Bool.rec (fun _ => RS) (.ok (.exit i) env T nx) (.ok .norm env T nx) (Nat.beq i id)) (.ok .ret env T nx)))
  (fun a _ rec fi env T nx => RS.casesOn (motive := fun _ => RS) (rec fi a env T nx) (fun w => .no w) (fun o env T nx => Out.casesOn (motive := fun _ => RS) o (rec fi (.loop a) env T nx) (fun i => .ok (.exit i) env T nx) (.ok .ret env T nx)))
  (fun id _ _ _ env T nx => .ok (.exit id) env T nx)
  (fun _ _ _ env T nx => .ok .ret env T nx)
  (fun l cf rec fi env T nx => spF l cf rec fi.mu env T nx)
section
variable (cf : Cfg) (rec : Fi → ES → Tr EV → TM → Nat → RS)
theorem steF_eq (fi : Fi) (s : ES) (env : Tr EV) (T : TM) (nx : Nat) : steF s cf rec fi env T nx = stepR cf rec fi s env T nx := by
  cases s with
  | nop => rfl
  | exit id => rfl
  | ret => rfl
  | eff o => rfl
  | sets outs must =>
    show @Bool.rec (fun _ => RS) (.no [2999]) (seF outs cf.O T nx env env) (muF must cf.O T env) = _
    simp only [stepR, seF_eq, muF_eq]
    cases mustE cf T env must <;> rfl
  | act d e =>
    show RC.casesOn (motive := fun _ => RS) (efF e cf rec (muD fi.mu d) env T nx) (fun w => .no ((1000 + d.getD 999) :: w)) (fun v T nx => puO env d v fun env => .ok .norm env T nx) = _
    simp only [stepR, efF_eq, puO_eq, muD_eq]
    cases effR cf rec ((d.map fun d => fi.mu.contains d).getD false) env T nx e <;> rfl
  | seq a b =>
    show RS.casesOn (motive := fun _ => RS) (rec fi a env T nx) _ _ = _
    simp only [stepR]
    cases rec fi a env T nx with
    | no w => rfl
    | ok o env T nx => cases o <;> rfl
  | ite c a b =>
    show @Option.rec _ (fun _ => RS) (.no [3000]) (fun v => iteF v (rec fi a env T nx) (rec fi b env T nx)) (evF c cf.O T env) = _
    simp only [stepR, evF_eq]
    cases evE cf.O T env c with
    | none => rfl
    | some v => cases v <;> try rfl
                rename_i t
                cases t <;> rfl
  | block id a =>
    show RS.casesOn (motive := fun _ => RS) (rec fi a env T nx) _ _ = _
    simp only [stepR]
    cases rec fi a env T nx with
    | no w => rfl
    | ok o env T nx =>
      cases o <;> try rfl
      rename_i i
      show @Bool.rec (fun _ => RS) (.ok (.exit i) env T nx) (.ok .norm env T nx) (Nat.beq i id) = cond (Nat.beq i id) _ _
      cases Nat.beq i id <;> rfl
  | loop a =>
    show RS.casesOn (motive := fun _ => RS) (rec fi a env T nx) _ _ = _
    simp only [stepR]
    cases rec fi a env T nx with
    | no w => rfl
    | ok o env T nx => cases o <;> rfl
  | sp l => exact spF_eq cf rec _ l env T nx
end
def runF (cf : Cfg) (n : Nat) : Fi → ES → Tr EV → TM → Nat → RS := @Nat.rec (fun _ => Fi → ES → Tr EV → TM → Nat → RS) (fun _ _ _ _ _ => .no [9999]) (fun _ ih fi s env T nx => steF s cf ih fi env T nx) n
theorem runF_eq (cf : Cfg) : ∀ n, runF cf n = run cf n := by
  intro n
  induction n with
  | zero => rfl
  | succ n ih =>
    funext fi s env T nx
    show steF s cf (runF cf n) fi env T nx = stepR cf (run cf n) fi s env T nx
    rw [ih, steF_eq]
theorem callF_run (cf : Cfg) (n : Nat) (f : FuncId) (args : List EV) (T : TM) (nx : Nat) : callF cf (runF cf n) f args T nx = callR cf (run cf n) f args T nx := by rw [callF_eq, runF_eq]
end
end Go.Proofs.YtbiejiangdbcmaaDoor.Mw
namespace Go.Proofs.YtbiejiangdbcmaaDoor.Pf
open Go Go.RowKit Go.Proofs Go.Proofs.YtbiejiangdbcmaaDoor.Mw Go.Extern.Stop Go.Stop Go.Extern
set_option linter.unusedVariables false
set_option linter.unusedSimpArgs false
set_option maxRecDepth 20000
theorem asNilR (t : Value) (w : World) :
    Calls Tryd.prog 75 #[.nilIface, t] w fun e w' => e = .returned (.bool false) ∧ w' = w := by
  go_enter Tryd.func75, Tryd.ntmps75
  go_wp2
  go_ret
  exact ⟨rfl, rfl⟩
def asP (args : List EV) (T : TM) (nx : Nat) : RC := match args with
  | [.raw .nilIface, _] => .ok (.bool false) T nx
  | _ => .no [77]
theorem asP_ok : PrimOk Tryd.prog 75 asP := by
  intro c n n' args T T' ds M v Post h hr hM hP
  unfold asP at h
  split at h
  rotate_left
  · cases h
  cases h
  simp only [RL] at hr
  obtain ⟨d, r, rfl, h1, d2, r2, rfl, h2, rfl⟩ := hr
  simp only [RV] at h1; subst h1
  intro F m vals hMm hv hF ho
  obtain ⟨x, y, rfl, hx, hy⟩ : ∃ x y, vals = [x, y] ∧ Rep m (.raw .nilIface) x ∧ Rep m d2 y := by
    obtain ⟨h1, h2⟩ := hv
    match vals, h2 with
    | [x, y], _ => exact ⟨x, y, rfl, h1.1, h1.2.1⟩
  have hx' : x = .nilIface := by simpa only [Rep] using hx
  subst hx'
  refine ⟨⟨_, Tryd.func75, by kernel_rfl, by kernel_rfl, by kernel_rfl⟩, fun w0 w hs => (asNilR y w).mono fun e w' ⟨he, hw⟩ => ⟨_, m, he, hw ▸ hs, .bool false, M, by simp only [Rep], hMm, Fin.refl m, hF, ho, ?_⟩⟩
  exact hP c _ M (Nat.le_refl _) (Cx.Ext.refl _ _) (by simp only [RV]) hM
end Go.Proofs.YtbiejiangdbcmaaDoor.Pf
