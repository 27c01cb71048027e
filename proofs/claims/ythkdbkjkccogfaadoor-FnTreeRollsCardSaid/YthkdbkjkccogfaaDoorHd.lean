/- Facts on the tables of this seat. Nothing is claimed here; no condition. -/
import Derived.Test.YthkdbkjkccogfaaDoorAbsY
import Derived.Test.YthkdbkjkccogfaaDoorTab
namespace Go.Proofs.YthkdbkjkccogfaaDoor
open Go Go.Abs
-- loop.example/g01121/laws.FnExactBestStates
theorem fn3 : TT.fn 3 = some Tryd.f3 := by kernel_rfl
theorem md3 : (TT.an 3).mode = 1 := by kernel_rfl
theorem fi3 : FI.of Tryd.f3 (TT.an 3) = ⟨[.tmp 4], 90, [(0, [1, 2]), (1, [1, 2, 18]), (2, [4]), (3, [1, 2, 5, 6, 7]), (4, [1, 2, 5, 6, 7, 8, 9, 10]), (5, [1, 2, 5, 6, 7, 8, 48]), (6, [4]), (7, [1, 2, 5, 6, 7, 8, 11]), (8, [1, 2, 5, 6, 7, 8, 11]), (9, [1, 2, 5, 6, 7, 8, 11, 12]), (10, [1, 2, 5, 6, 7, 8, 11, 12]), (11, [1, 2, 5, 6, 7, 8, 11, 12, 56]), (12, [4]), (13, [1, 2, 5, 6, 7, 8, 11, 59]), (14, [4]), (15, [5, 6, 7, 8, 11, 13, 14, 15]), (16, [8, 11, 81]), (17, [4]), (18, [8, 11, 12]), (19, [11, 12]), (20, [11, 12, 86]), (21, [4]), (22, [89]), (23, [4]), (24, [4])], []⟩ := by kernel_rfl
-- loop.example/g01121/laws.FnAttack
theorem fn4 : TT.fn 4 = some Tryd.f4 := by kernel_rfl
theorem md4 : (TT.an 4).mode = 1 := by kernel_rfl
theorem fi4 : FI.of Tryd.f4 (TT.an 4) = ⟨[.tmp 4], 129, [(0, [0, 1]), (1, [0, 1, 22]), (2, [4]), (3, [1, 5]), (4, [1, 5, 6]), (5, [1, 5, 6, 7, 8]), (6, [1, 5, 6, 7, 8, 9, 10, 11]), (7, [1, 5, 7, 64]), (8, [4]), (9, [5, 7, 12]), (10, [5, 13]), (11, [5, 13, 14, 15, 16]), (12, [5, 13, 14, 15, 99]), (13, [4]), (14, [5, 13, 14, 15, 17]), (15, [5, 13, 14, 15, 17, 103]), (16, [5, 13, 14, 15, 17]), (17, [5, 13, 14, 15, 17, 18, 19]), (18, [5, 13, 14, 15, 17, 128]), (19, [4]), (20, [4])], [(10, [(2, 7), (2, 8), (13, 7), (13, 8)])]⟩ := by kernel_rfl
-- loop.example/g01121/laws.FnShortestRegister
theorem fn5 : TT.fn 5 = some Tryd.f5 := by kernel_rfl
theorem md5 : (TT.an 5).mode = 1 := by kernel_rfl
theorem fi5 : FI.of Tryd.f5 (TT.an 5) = ⟨[.tmp 4], 144, [(0, [0, 1]), (1, [0, 1, 23]), (2, [4]), (3, [1, 5]), (4, [1, 5, 6, 7, 8]), (5, [1, 5, 6, 7, 8, 9, 10]), (6, [1, 5, 6, 8, 9, 10, 11, 12]), (7, [1, 5, 6, 9, 66]), (8, [4]), (9, [1, 5, 6, 9, 13]), (10, [1, 5, 6, 9, 13, 14]), (11, [1, 5, 6, 9, 13, 14, 70]), (12, [1, 5, 6, 9, 13, 14]), (13, [1, 5, 6, 9, 13, 14, 15]), (14, [1, 5, 6, 9, 14, 98]), (15, [4]), (16, [1, 5, 6, 9, 13, 14]), (17, [1, 5, 6, 106]), (18, [4]), (19, [5, 6, 16]), (20, [5, 16, 113]), (21, [4]), (22, [5, 16, 17]), (23, [5, 16, 17, 18]), (24, [5, 16, 17, 18, 117]), (25, [5, 16, 17, 18]), (26, [5, 16, 17, 18]), (27, [5, 19, 20]), (28, [4])], []⟩ := by kernel_rfl
-- loop.example/g01121/laws.FnExactRegisterOf
theorem fn6 : TT.fn 6 = some Tryd.f6 := by kernel_rfl
theorem md6 : (TT.an 6).mode = 1 := by kernel_rfl
theorem fi6 : FI.of Tryd.f6 (TT.an 6) = ⟨[.tmp 4], 54, [(0, [1, 2]), (1, [1, 2, 5]), (2, [1, 2, 5]), (3, [1, 2, 17]), (4, [4]), (5, [1, 2, 6, 7, 8]), (6, [1, 2, 6, 7, 8, 9]), (7, [2, 6, 7, 8, 9, 10, 11, 12]), (8, [2, 9, 48]), (9, [4]), (10, [53]), (11, [4]), (12, [4])], [(10, [(0, 2)])]⟩ := by kernel_rfl
-- loop.example/g01121/laws.FnSameRegister
theorem fn7 : TT.fn 7 = some Tryd.f7 := by kernel_rfl
theorem md7 : (TT.an 7).mode = 1 := by kernel_rfl
theorem fi7 : FI.of Tryd.f7 (TT.an 7) = ⟨[.tmp 4], 120, [(0, [0, 1]), (1, [0, 1, 24]), (2, [4]), (3, [0, 1, 5]), (4, [0, 1, 5, 6]), (5, [0, 1, 5, 6, 7, 8, 9]), (6, [0, 1, 5, 7, 8, 9, 10, 11]), (7, [0, 1, 5, 7, 9, 10, 11, 12, 13]), (8, [0, 1, 78]), (9, [4]), (10, [0, 14]), (11, [0, 14, 15, 16]), (12, [0, 14, 15, 16, 90]), (13, [4]), (14, [0, 14, 15, 92]), (15, [4]), (16, [14, 15, 17]), (17, [15, 17, 18, 19]), (18, [18, 19, 20, 21]), (19, [4])], []⟩ := by kernel_rfl
-- loop.example/g01121/laws.FnAgreements
theorem fn8 : TT.fn 8 = some Tryd.f8 := by kernel_rfl
theorem md8 : (TT.an 8).mode = 1 := by kernel_rfl
theorem fi8 : FI.of Tryd.f8 (TT.an 8) = ⟨[.tmp 4], 141, [(0, [0, 1]), (1, [0, 1, 22]), (2, [4]), (3, [1, 5]), (4, [1, 5, 6, 7]), (5, [1, 5, 6, 7, 8]), (6, [1, 5, 6, 8, 47]), (7, [4]), (8, [1, 5, 6, 8, 9]), (9, [1, 5, 6, 8, 9, 10]), (10, [1, 5, 6, 8, 9, 10, 11]), (11, [1, 5, 6, 8, 9, 10, 11, 50]), (12, [1, 5, 6, 8, 9, 10, 11]), (13, [1, 5, 6, 8, 9, 10, 11]), (14, [1, 5, 6, 8, 9, 10, 11, 62]), (15, [1, 5, 6, 8, 9, 10, 11]), (16, [1, 5, 6, 8, 9, 10, 11]), (17, [1, 5, 6, 8, 9, 10, 11, 79]), (18, [4]), (19, [9, 10, 12]), (20, [9, 10, 12, 13, 14]), (21, [12, 13, 95]), (22, [4]), (23, [12, 98]), (24, [4]), (25, [12, 15, 16]), (26, [12, 16, 17, 18]), (27, [17, 129]), (28, [4]), (29, [17, 19]), (30, [17, 19, 133]), (31, [17, 19]), (32, [17, 19, 140]), (33, [4]), (34, [4])], []⟩ := by kernel_rfl
-- loop.example/g01121/laws.FnCombinedStreams
theorem fn9 : TT.fn 9 = some Tryd.f9 := by kernel_rfl
theorem md9 : (TT.an 9).mode = 1 := by kernel_rfl
theorem fi9 : FI.of Tryd.f9 (TT.an 9) = ⟨[.tmp 4], 186, [(0, [0, 1]), (1, [0, 1, 28]), (2, [4]), (3, [1, 5]), (4, [1, 5, 6, 7]), (5, [1, 5, 6, 45]), (6, [4]), (7, [1, 5, 6, 8]), (8, [1, 5, 6, 8, 9]), (9, [1, 5, 6, 8, 9, 10]), (10, [1, 5, 6, 8, 9, 10, 11]), (11, [1, 5, 6, 8, 9, 10, 11, 53]), (12, [1, 5, 6, 8, 9, 10, 11]), (13, [1, 5, 6, 8, 9, 10, 11, 12]), (14, [1, 5, 6, 8, 9, 10, 11, 12, 13, 14]), (15, [1, 5, 6, 8, 9, 10, 11, 12, 13, 79]), (16, [4]), (17, [1, 5, 6, 8, 9, 10, 11, 12]), (18, [1, 5, 6, 8, 9, 10, 11]), (19, [5, 6, 9, 10, 15, 16]), (20, [5, 6, 9, 15, 16, 17, 18]), (21, [5, 6, 9, 15, 17, 123]), (22, [4]), (23, [5, 6, 9, 15, 17, 125]), (24, [4]), (25, [5, 6, 9, 15, 17, 19]), (26, [5, 6, 9, 15, 17, 19, 127]), (27, [5, 6, 9, 15, 17, 19]), (28, [5, 6, 9, 15, 17, 19, 20]), (29, [5, 6, 9, 15, 17, 19, 20, 21]), (30, [5, 6, 9, 15, 17, 19, 20, 21, 132]), (31, [5, 6, 9, 15, 17, 19, 20, 21]), (32, [5, 6, 9, 15, 17, 19, 20, 21]), (33, [5, 6, 9, 15, 17, 19, 154]), (34, [4]), (35, [15, 17, 22, 23]), (36, [15, 17, 22, 23, 24, 25]), (37, [4])], [(14, [(0, 8)])]⟩ := by kernel_rfl
-- loop.example/g01121/laws.FnFairFlips
theorem fn10 : TT.fn 10 = some Tryd.f10 := by kernel_rfl
theorem md10 : (TT.an 10).mode = 1 := by kernel_rfl
theorem fi10 : FI.of Tryd.f10 (TT.an 10) = ⟨[.tmp 4], 124, [(0, [0, 1]), (1, [0, 1, 23]), (2, [4]), (3, [0, 1, 5]), (4, [1, 5, 6]), (5, [5, 6, 7]), (6, [5, 6, 7, 8]), (7, [5, 6, 7, 8, 9]), (8, [5, 6, 7, 8, 9, 10]), (9, [5, 6, 7, 8, 9, 10, 11]), (10, [5, 6, 7, 8, 9, 10, 11, 40]), (11, [5, 6, 7, 8, 9, 10, 11]), (12, [5, 6, 7, 8, 9, 10, 11, 46]), (13, [5, 6, 7, 8, 9, 10, 11, 12]), (14, [5, 6, 7, 8, 9, 10, 11, 12, 13, 14]), (15, [5, 6, 7, 8, 9, 10, 11, 12, 13, 14, 15, 16]), (16, [5, 6, 7, 8, 9, 10, 11, 13, 14, 15, 16, 17, 18]), (17, [5, 6, 7, 8, 9, 10, 11, 13, 15, 17, 90]), (18, [4]), (19, [5, 6, 7, 8, 9, 10, 11, 15, 17]), (20, [5, 6, 7, 8, 9, 10, 11, 17]), (21, [5, 6, 7, 8, 9, 10, 11]), (22, [8, 9, 10, 19, 20]), (23, [4])], []⟩ := by kernel_rfl
-- loop.example/g01121/laws.FnTreeRolls
theorem fn11 : TT.fn 11 = some Tryd.f11 := by kernel_rfl
theorem md11 : (TT.an 11).mode = 1 := by kernel_rfl
theorem fi11 : FI.of Tryd.f11 (TT.an 11) = ⟨[.tmp 4], 126, [(0, [0, 1]), (1, [0, 21]), (2, [4]), (3, [5]), (4, [5, 6, 7]), (5, [5, 6, 7, 8, 9]), (6, [5, 6, 8, 54]), (7, [4]), (8, [5, 6, 10]), (9, [5, 6, 10, 11]), (10, [5, 6, 10, 11, 12]), (11, [5, 6, 10, 11, 12, 13]), (12, [5, 6, 10, 11, 12, 13, 65]), (13, [5, 6, 10, 11, 12, 13]), (14, [5, 6, 10, 11, 12, 13, 14, 15, 16]), (15, [5, 6, 10, 11, 12, 13, 14, 15, 97]), (16, [4]), (17, [5, 6, 10, 11, 12, 13, 15]), (18, [5, 6, 10, 11, 12, 13]), (19, [5, 6, 11, 17, 18]), (20, [4])], []⟩ := by kernel_rfl
-- loop.example/g01121/spec.BestStates
theorem fn12 : TT.fn 12 = some Tryd.f12 := by kernel_rfl
theorem md12 : (TT.an 12).mode = 2 := by kernel_rfl
theorem fi12 : FI.of Tryd.f12 (TT.an 12) = ⟨[.tmp 4, .tmp 5, .tmp 6], 72, [(0, [1, 2]), (1, [1, 2, 26]), (2, [4, 5, 6]), (3, [1, 2, 7]), (4, [1, 2, 7, 8]), (5, [1, 2, 7, 8, 9]), (6, [1, 2, 7, 8, 9, 33]), (7, [1, 2, 7, 8, 9]), (8, [1, 2, 7, 8, 9, 10]), (9, [1, 2, 7, 8, 9, 10, 11]), (10, [1, 2, 7, 8, 9, 10, 11, 12]), (11, [1, 2, 7, 8, 9, 10, 11, 12, 40]), (12, [1, 2, 7, 8, 9, 10, 11, 12]), (13, [1, 2, 7, 8, 9, 10, 12, 13, 14]), (14, [1, 2, 7, 8, 9, 10, 12, 13, 54]), (15, [1, 2, 7, 8, 9, 10, 12, 13]), (16, [1, 2, 7, 8, 9, 10, 11, 12]), (17, [1, 2, 7, 8, 9, 10, 60]), (18, [1, 2, 7, 9, 10]), (19, [1, 2, 7, 8, 9, 10]), (20, [1, 2, 7, 8, 9, 65]), (21, [1, 2, 7, 8, 9]), (22, [4, 5, 6])], []⟩ := by kernel_rfl
-- loop.example/g01121/laws.toRegister
theorem fn13 : TT.fn 13 = some Tryd.f13 := by kernel_rfl
theorem md13 : (TT.an 13).mode = 1 := by kernel_rfl
theorem fi13 : FI.of Tryd.f13 (TT.an 13) = ⟨[.cell 2 27], 11, [(0, [1, 2]), (1, [1, 2, 3]), (2, [1, 2, 3]), (3, [2, 3]), (4, [2])], []⟩ := by kernel_rfl
-- loop.example/g01121/impl.BestStates
theorem fn14 : TT.fn 14 = some Tryd.f14 := by kernel_rfl
theorem md14 : (TT.an 14).mode = 2 := by kernel_rfl
theorem fi14 : FI.of Tryd.f14 (TT.an 14) = ⟨[.tmp 4, .tmp 5, .tmp 6], 71, [(0, [1, 2]), (1, [1, 2, 26]), (2, [4, 5, 6]), (3, [1, 2, 7, 8]), (4, [1, 2, 7, 8, 30, 31]), (5, [1, 2, 7, 8, 30, 31, 32]), (6, [1, 2, 7, 8, 9, 30, 31]), (7, [1, 2, 7, 8, 9, 10, 30, 31]), (8, [1, 2, 7, 8, 9, 10, 11, 30, 31]), (9, [1, 2, 7, 8, 9, 10, 11, 30, 31, 43, 44]), (10, [1, 2, 7, 8, 9, 10, 11, 30, 31, 43, 44, 45]), (11, [1, 2, 7, 8, 9, 10, 11, 13, 30, 31, 43, 44]), (12, [1, 2, 7, 8, 9, 10, 11, 30, 31, 43, 44, 53]), (13, [1, 2, 7, 8, 9, 10, 11, 30, 31, 43, 44]), (14, [1, 2, 7, 8, 9, 10, 11, 30, 31, 43, 44]), (15, [1, 2, 7, 8, 9, 10, 30, 31, 59]), (16, [1, 2, 7, 8, 9, 10, 30, 31]), (17, [1, 2, 7, 8, 9, 30, 31, 63]), (18, [1, 2, 7, 8, 30, 31]), (19, [1, 2, 7, 8, 30, 31]), (20, [4, 5, 6])], []⟩ := by kernel_rfl
-- loop.example/g01121/laws.eqInt64S
theorem fn15 : TT.fn 15 = some Tryd.f15 := by kernel_rfl
theorem md15 : (TT.an 15).mode = 1 := by kernel_rfl
theorem fi15 : FI.of Tryd.f15 (TT.an 15) = ⟨[.tmp 4], 26, [(0, [0, 1]), (1, [0, 1, 10]), (2, [4]), (3, [0, 1, 5]), (4, [0, 1, 5, 14]), (5, [0, 1, 5]), (6, [0, 1, 5, 25]), (7, [4]), (8, [4])], []⟩ := by kernel_rfl
-- loop.example/g01121/laws.markInt64S
theorem fn16 : TT.fn 16 = some Tryd.f16 := by kernel_rfl
theorem md16 : (TT.an 16).mode = 0 := by kernel_rfl
theorem fi16 : FI.of Tryd.f16 (TT.an 16) = ⟨[.tmp 4], 19, [(0, [0, 1]), (1, [0, 1, 5]), (2, [0, 1, 5, 9]), (3, [0, 1, 5]), (4, [0, 1, 5]), (5, [0, 1, 5]), (6, [4])], []⟩ := by kernel_rfl
-- loop.example/g01121/laws.heldInt64S
theorem fn17 : TT.fn 17 = some Tryd.f17 := by kernel_rfl
theorem md17 : (TT.an 17).mode = 1 := by kernel_rfl
theorem fi17 : FI.of Tryd.f17 (TT.an 17) = ⟨[.tmp 4], 21, [(0, [0, 1]), (1, [0, 1, 5]), (2, [0, 1, 5, 9]), (3, [0, 1, 5]), (4, [0, 1, 5, 17]), (5, [4]), (6, [0, 1, 5]), (7, [4])], []⟩ := by kernel_rfl
-- loop.example/g01121/laws.r8Long
theorem fn18 : TT.fn 18 = some Tryd.f18 := by kernel_rfl
theorem md18 : (TT.an 18).mode = 1 := by kernel_rfl
theorem fi18 : FI.of Tryd.f18 (TT.an 18) = ⟨[.tmp 4], 13, [(0, [0, 1]), (1, [4])], []⟩ := by kernel_rfl
-- loop.example/g01121/spec.R8Register
theorem fn19 : TT.fn 19 = some Tryd.f19 := by kernel_rfl
theorem md19 : (TT.an 19).mode = 1 := by kernel_rfl
theorem fi19 : FI.of Tryd.f19 (TT.an 19) = ⟨[.cell 2 27], 29, [(0, [0, 2]), (1, [2, 3]), (2, [2, 3, 4]), (3, [2, 3, 4]), (4, [2, 4, 23]), (5, [2, 4]), (6, [2])], []⟩ := by kernel_rfl
-- loop.example/g01121/spec.R8Number
theorem fn20 : TT.fn 20 = some Tryd.f20 := by kernel_rfl
theorem md20 : (TT.an 20).mode = 1 := by kernel_rfl
theorem fi20 : FI.of Tryd.f20 (TT.an 20) = ⟨[.tmp 4], 11, [(0, [0, 1]), (1, [1, 5]), (2, [4])], []⟩ := by kernel_rfl
-- loop.example/g01121/impl.RegisterBits
theorem fn21 : TT.fn 21 = some Tryd.f21 := by kernel_rfl
theorem md21 : (TT.an 21).mode = 1 := by kernel_rfl
theorem fi21 : FI.of Tryd.f21 (TT.an 21) = ⟨[.tmp 6, .tmp 7], 27, [(0, [1, 2, 3]), (1, [1, 2, 3, 18]), (2, [6, 7]), (3, [8]), (4, [6, 7])], []⟩ := by kernel_rfl
-- loop.example/g01121/laws.r8Has
theorem fn22 : TT.fn 22 = some Tryd.f22 := by kernel_rfl
theorem md22 : (TT.an 22).mode = 1 := by kernel_rfl
theorem fi22 : FI.of Tryd.f22 (TT.an 22) = ⟨[.tmp 4], 18, [(0, [0, 1]), (1, [0, 1, 5]), (2, [0, 1, 5, 9]), (3, [0, 1, 5]), (4, [0, 1, 5, 17]), (5, [4]), (6, [4])], []⟩ := by kernel_rfl
-- loop.example/g01121/laws.r8At
theorem fn23 : TT.fn 23 = some Tryd.f23 := by kernel_rfl
theorem md23 : (TT.an 23).mode = 1 := by kernel_rfl
theorem fi23 : FI.of Tryd.f23 (TT.an 23) = ⟨[.tmp 6], 22, [(0, [0, 1, 2]), (1, [0, 1, 2, 14]), (2, [6]), (3, [6])], []⟩ := by kernel_rfl
-- loop.example/g01121/laws.r8Agree
theorem fn24 : TT.fn 24 = some Tryd.f24 := by kernel_rfl
theorem md24 : (TT.an 24).mode = 1 := by kernel_rfl
theorem fi24 : FI.of Tryd.f24 (TT.an 24) = ⟨[.tmp 4], 29, [(0, [0, 1]), (1, [0, 1, 5]), (2, [0, 1, 5, 6]), (3, [0, 1, 5, 6, 16]), (4, [0, 1, 5, 6]), (5, [0, 1, 5, 6, 25]), (6, [0, 1, 5, 6]), (7, [4])], []⟩ := by kernel_rfl
-- loop.example/g01121/spec.R8Bits
theorem fn25 : TT.fn 25 = some Tryd.f25 := by kernel_rfl
theorem md25 : (TT.an 25).mode = 1 := by kernel_rfl
theorem fi25 : FI.of Tryd.f25 (TT.an 25) = ⟨[.tmp 4], 11, [(0, [0, 1]), (1, [1, 5]), (2, [4])], []⟩ := by kernel_rfl
-- loop.example/g01121/impl.ShortestRegister
theorem fn26 : TT.fn 26 = some Tryd.f26 := by kernel_rfl
theorem md26 : (TT.an 26).mode = 1 := by kernel_rfl
theorem fi26 : FI.of Tryd.f26 (TT.an 26) = ⟨[.cell 2 27, .tmp 3, .tmp 4], 39, [(0, [0, 2]), (1, [0, 2, 11]), (2, [2, 3, 4]), (3, [0, 2, 5, 6]), (4, [0, 2, 5, 6, 19]), (5, [2, 3, 4]), (6, [0, 2, 5, 6, 7]), (7, [0, 2, 5, 6, 7, 21, 22]), (8, [0, 2, 5, 6, 7, 21, 22, 23]), (9, [0, 2, 5, 6, 7, 8, 21, 22]), (10, [0, 2, 5, 6, 7, 21, 22]), (11, [0, 2, 5, 6, 7, 21, 22]), (12, [2, 3, 4])], []⟩ := by kernel_rfl
-- loop.example/g01121/impl.WidthsOf
theorem fn27 : TT.fn 27 = some Tryd.f27 := by kernel_rfl
theorem md27 : (TT.an 27).mode = 1 := by kernel_rfl
theorem fi27 : FI.of Tryd.f27 (TT.an 27) = ⟨[.tmp 2, .tmp 3], 30, [(0, [0]), (1, [0, 10]), (2, [2, 3]), (3, [0, 4]), (4, [0, 4, 5]), (5, [0, 4, 5, 15]), (6, [0, 4, 5]), (7, [0, 4, 5, 6]), (8, [0, 4, 5]), (9, [2, 3])], []⟩ := by kernel_rfl
-- loop.example/g01121/laws.szLinear
theorem fn28 : TT.fn 28 = some Tryd.f28 := by kernel_rfl
theorem md28 : (TT.an 28).mode = 1 := by kernel_rfl
theorem fi28 : FI.of Tryd.f28 (TT.an 28) = ⟨[.tmp 4], 12, [(0, [1, 2]), (1, [1]), (2, [1, 10]), (3, [4]), (4, [4])], []⟩ := by kernel_rfl
-- loop.example/g01121/spec.RegisterOf
theorem fn29 : TT.fn 29 = some Tryd.f29 := by kernel_rfl
theorem md29 : (TT.an 29).mode = 1 := by kernel_rfl
theorem fi29 : FI.of Tryd.f29 (TT.an 29) = ⟨[.cell 4 27, .tmp 5, .tmp 6], 20, [(0, [1, 2, 4]), (1, [1, 2, 4, 9]), (2, [4, 5, 6]), (3, [4, 5, 6])], []⟩ := by kernel_rfl
-- loop.example/g01121/laws.toLinear
theorem fn30 : TT.fn 30 = some Tryd.f30 := by kernel_rfl
theorem md30 : (TT.an 30).mode = 1 := by kernel_rfl
theorem fi30 : FI.of Tryd.f30 (TT.an 30) = ⟨[.cell 2 51], 15, [(0, [1, 2]), (1, [1, 2, 3]), (2, [1, 2, 3]), (3, [1, 2, 3]), (4, [2, 3]), (5, [2])], []⟩ := by kernel_rfl
-- loop.example/g01121/impl.RegisterOf
theorem fn31 : TT.fn 31 = some Tryd.f31 := by kernel_rfl
theorem md31 : (TT.an 31).mode = 1 := by kernel_rfl
theorem fi31 : FI.of Tryd.f31 (TT.an 31) = ⟨[.cell 4 27, .tmp 5, .tmp 6], 22, [(0, [1, 2, 4]), (1, [1, 2, 4, 10]), (2, [4, 5, 6]), (3, [4, 5, 6])], []⟩ := by kernel_rfl
-- loop.example/g01121/laws.eqRegister
theorem fn32 : TT.fn 32 = some Tryd.f32 := by kernel_rfl
theorem md32 : (TT.an 32).mode = 1 := by kernel_rfl
theorem fi32 : FI.of Tryd.f32 (TT.an 32) = ⟨[.tmp 4], 15, [(0, [2, 3]), (1, [2, 3, 9]), (2, [4]), (3, [14]), (4, [4]), (5, [4])], []⟩ := by kernel_rfl
-- loop.example/g01121/laws.eqLinear
theorem fn33 : TT.fn 33 = some Tryd.f33 := by kernel_rfl
theorem md33 : (TT.an 33).mode = 1 := by kernel_rfl
theorem fi33 : FI.of Tryd.f33 (TT.an 33) = ⟨[.tmp 4], 21, [(0, [2, 3]), (1, [2, 3, 9]), (2, [4]), (3, [2, 3, 15]), (4, [4]), (5, [20]), (6, [4]), (7, [4])], []⟩ := by kernel_rfl
-- loop.example/g01121/spec.R8Linear
theorem fn34 : TT.fn 34 = some Tryd.f34 := by kernel_rfl
theorem md34 : (TT.an 34).mode = 1 := by kernel_rfl
theorem fi34 : FI.of Tryd.f34 (TT.an 34) = ⟨[.cell 2 51], 40, [(0, [0, 2]), (1, [2, 3]), (2, [2, 3, 4]), (3, [2, 3, 4, 15]), (4, [2, 3, 4, 5]), (5, [2, 3, 4, 5, 6]), (6, [2, 3, 4, 7, 8]), (7, [2, 3, 4, 7, 35]), (8, [2]), (9, [2])], []⟩ := by kernel_rfl
-- loop.example/g01121/impl.LinearBits
theorem fn35 : TT.fn 35 = some Tryd.f35 := by kernel_rfl
theorem md35 : (TT.an 35).mode = 1 := by kernel_rfl
theorem fi35 : FI.of Tryd.f35 (TT.an 35) = ⟨[.tmp 6, .tmp 7], 21, [(0, [1, 2, 3]), (1, [1, 2, 3, 16]), (2, [6, 7]), (3, [6, 7])], []⟩ := by kernel_rfl
-- loop.example/g01121/impl.OfRegister
theorem fn36 : TT.fn 36 = some Tryd.f36 := by kernel_rfl
theorem md36 : (TT.an 36).mode = 2 := by kernel_rfl
theorem fi36 : FI.of Tryd.f36 (TT.an 36) = ⟨[.cell 2 51, .tmp 3], 41, [(0, [1, 2]), (1, [1, 2, 13]), (2, [2, 3]), (3, [1, 2, 4]), (4, [1, 2, 4, 20, 21]), (5, [1, 2, 4, 20, 21, 22]), (6, [1, 2, 4, 5, 20, 21]), (7, [1, 2, 4, 20, 21]), (8, [1, 2, 4, 20, 21]), (9, [2, 4]), (10, [2, 3])], [(7, [(1, 5)])]⟩ := by kernel_rfl
-- loop.example/g01121/impl.AgreementsOf
theorem fn37 : TT.fn 37 = some Tryd.f37 := by kernel_rfl
theorem md37 : (TT.an 37).mode = 1 := by kernel_rfl
theorem fi37 : FI.of Tryd.f37 (TT.an 37) = ⟨[.tmp 2, .tmp 3], 49, [(0, [0]), (1, [0, 15]), (2, [2, 3]), (3, [0, 4, 5]), (4, [0, 4, 5, 19, 20]), (5, [0, 4, 5, 19, 20, 21]), (6, [0, 4, 5, 6, 19, 20]), (7, [0, 4, 5, 6, 7, 19, 20]), (8, [0, 4, 5, 6, 7, 19, 20, 23, 24]), (9, [0, 4, 5, 6, 7, 19, 20, 23, 24, 25]), (10, [0, 4, 5, 6, 7, 8, 19, 20, 23, 24]), (11, [0, 4, 5, 6, 7, 19, 20, 23, 24, 37]), (12, [0, 4, 5, 6, 7, 19, 20, 23, 24]), (13, [0, 4, 5, 6, 7, 19, 20, 23, 24]), (14, [0, 4, 5, 6, 7, 19, 20, 23, 24]), (15, [0, 4, 5, 19, 20]), (16, [0, 4, 5, 19, 20]), (17, [2, 3])], []⟩ := by kernel_rfl
-- loop.example/g01121/impl.PolyOf
theorem fn38 : TT.fn 38 = some Tryd.f38 := by kernel_rfl
theorem md38 : (TT.an 38).mode = 1 := by kernel_rfl
theorem fi38 : FI.of Tryd.f38 (TT.an 38) = ⟨[.tmp 2, .tmp 3], 13, [(0, [1]), (1, [1, 6]), (2, [2, 3]), (3, [2, 3])], []⟩ := by kernel_rfl
-- loop.example/g01121/impl.IsPrimitive
theorem fn39 : TT.fn 39 = some Tryd.f39 := by kernel_rfl
theorem md39 : (TT.an 39).mode = 1 := by kernel_rfl
theorem fi39 : FI.of Tryd.f39 (TT.an 39) = ⟨[.tmp 2], 14, [(0, [0]), (1, [2])], []⟩ := by kernel_rfl
-- loop.example/g01121/spec.R8Table
theorem fn40 : TT.fn 40 = some Tryd.f40 := by kernel_rfl
theorem md40 : (TT.an 40).mode = 1 := by kernel_rfl
theorem fi40 : FI.of Tryd.f40 (TT.an 40) = ⟨[.tmp 2], 12, [(0, [0]), (1, [3]), (2, [3, 4]), (3, [2])], []⟩ := by kernel_rfl
-- loop.example/g01121/impl.InputsOf
theorem fn41 : TT.fn 41 = some Tryd.f41 := by kernel_rfl
theorem md41 : (TT.an 41).mode = 1 := by kernel_rfl
theorem fi41 : FI.of Tryd.f41 (TT.an 41) = ⟨[.tmp 2, .tmp 3], 9, [(0, [0]), (1, [0, 6]), (2, [2, 3]), (3, [2, 3])], []⟩ := by kernel_rfl
-- loop.example/g01121/spec.R8Registers
theorem fn42 : TT.fn 42 = some Tryd.f42 := by kernel_rfl
theorem md42 : (TT.an 42).mode = 1 := by kernel_rfl
theorem fi42 : FI.of Tryd.f42 (TT.an 42) = ⟨[.tmp 4], 33, [(0, [0, 1]), (1, [1, 5]), (2, [1, 5, 6]), (3, [1, 5, 6, 7]), (4, [1, 5, 6, 7, 14]), (5, [1, 5, 6, 7]), (6, [1, 5, 6, 7, 8]), (7, [1, 5, 6, 7, 8]), (8, [1, 5, 6, 7]), (9, [4])], []⟩ := by kernel_rfl
-- loop.example/g01121/impl.CombineBits
theorem fn43 : TT.fn 43 = some Tryd.f43 := by kernel_rfl
theorem md43 : (TT.an 43).mode = 1 := by kernel_rfl
theorem fi43 : FI.of Tryd.f43 (TT.an 43) = ⟨[.tmp 4, .tmp 5], 59, [(0, [0, 3]), (1, [0, 3, 20]), (2, [4, 5]), (3, [0, 3, 23]), (4, [4, 5]), (5, [0, 3, 6]), (6, [0, 3, 6, 7]), (7, [0, 3, 6, 7, 34]), (8, [0, 3, 6, 7]), (9, [0, 3, 6, 7, 8]), (10, [0, 3, 6, 7, 8, 37, 38, 39]), (11, [0, 3, 6, 7, 8, 37, 38, 39, 40]), (12, [0, 3, 6, 7, 8, 9, 10, 37, 38, 39]), (13, [0, 3, 6, 7, 8, 37, 38, 39]), (14, [0, 3, 6, 7, 8, 37, 38, 39]), (15, [0, 3, 6, 7]), (16, [4, 5])], []⟩ := by kernel_rfl
-- loop.example/g01121/impl.ShrinkBits
theorem fn45 : TT.fn 45 = some Tryd.f45 := by kernel_rfl
theorem md45 : (TT.an 45).mode = 1 := by kernel_rfl
theorem fi45 : FI.of Tryd.f45 (TT.an 45) = ⟨[.tmp 4, .tmp 5], 38, [(0, [0, 1]), (1, [0, 1, 22]), (2, [4, 5]), (3, [0, 1, 6]), (4, [0, 1, 6, 24, 25]), (5, [0, 1, 6, 24, 25, 26]), (6, [0, 1, 6, 7, 24, 25]), (7, [0, 1, 6, 7, 24, 25, 31]), (8, [0, 1, 6, 24, 25]), (9, [0, 1, 6, 24, 25]), (10, [4, 5])], []⟩ := by kernel_rfl
-- loop.example/g01121/laws.r8Weight
theorem fn46 : TT.fn 46 = some Tryd.f46 := by kernel_rfl
theorem md46 : (TT.an 46).mode = 1 := by kernel_rfl
theorem fi46 : FI.of Tryd.f46 (TT.an 46) = ⟨[.tmp 2], 13, [(0, [0]), (1, [0, 3]), (2, [0, 3, 5]), (3, [0, 3]), (4, [0, 3]), (5, [2])], []⟩ := by kernel_rfl
-- loop.example/g01121/laws.r8Text
theorem fn47 : TT.fn 47 = some Tryd.f47 := by kernel_rfl
theorem md47 : (TT.an 47).mode = 1 := by kernel_rfl
theorem fi47 : FI.of Tryd.f47 (TT.an 47) = ⟨[.tmp 4], 26, [(0, [0, 1]), (1, [0, 1, 5]), (2, [0, 5, 6]), (3, [0, 5, 6, 11]), (4, [0, 5, 6]), (5, [0, 5, 6]), (6, [4])], []⟩ := by kernel_rfl
-- loop.example/g01121/impl.FairPairs
theorem fn48 : TT.fn 48 = some Tryd.f48 := by kernel_rfl
theorem md48 : (TT.an 48).mode = 1 := by kernel_rfl
theorem fi48 : FI.of Tryd.f48 (TT.an 48) = ⟨[.tmp 2, .tmp 3], 9, [(0, [0]), (1, [0, 6]), (2, [2, 3]), (3, [2, 3])], []⟩ := by kernel_rfl
-- loop.example/g01121/impl.FairDeep
theorem fn49 : TT.fn 49 = some Tryd.f49 := by kernel_rfl
theorem md49 : (TT.an 49).mode = 1 := by kernel_rfl
theorem fi49 : FI.of Tryd.f49 (TT.an 49) = ⟨[.tmp 4, .tmp 5], 17, [(0, [0, 1]), (1, [0, 1, 13]), (2, [4, 5]), (3, [4, 5])], []⟩ := by kernel_rfl
-- loop.example/g01121/impl.FairBlock
theorem fn50 : TT.fn 50 = some Tryd.f50 := by kernel_rfl
theorem md50 : (TT.an 50).mode = 1 := by kernel_rfl
theorem fi50 : FI.of Tryd.f50 (TT.an 50) = ⟨[.tmp 2, .tmp 3], 67, [(0, [0]), (1, [0, 18]), (2, [2, 3]), (3, [0, 4, 5, 6]), (4, [0, 4, 5, 6, 7]), (5, [0, 4, 5, 6, 7, 27, 28]), (6, [0, 4, 5, 6, 7, 27, 28, 29]), (7, [0, 4, 5, 6, 7, 8, 27, 28]), (8, [0, 4, 5, 6, 7, 8, 27, 28, 34]), (9, [0, 4, 5, 6, 7, 27, 28]), (10, [0, 4, 5, 6, 7, 27, 28]), (11, [0, 4, 5, 6, 7, 27, 28]), (12, [6, 7, 9]), (13, [6, 7, 9, 49]), (14, [6, 7, 9]), (15, [6, 7, 9, 10]), (16, [6, 7, 9, 10, 57]), (17, [6, 7, 9, 10, 60]), (18, [2, 3]), (19, [6, 7, 9]), (20, [2, 3])], []⟩ := by kernel_rfl
-- loop.example/g01121/laws.r8Even
theorem fn51 : TT.fn 51 = some Tryd.f51 := by kernel_rfl
theorem md51 : (TT.an 51).mode = 1 := by kernel_rfl
theorem fi51 : FI.of Tryd.f51 (TT.an 51) = ⟨[.tmp 2], 61, [(0, [0]), (1, [0, 3]), (2, [0, 3, 10]), (3, [0, 3]), (4, [0, 3, 4]), (5, [0, 3, 4, 5]), (6, [0, 3, 4, 5, 6]), (7, [0, 3, 4, 5, 6, 16]), (8, [0, 3, 4, 5, 6]), (9, [0, 3, 4, 5, 6, 27]), (10, [0, 3, 4, 5, 6]), (11, [0, 3, 4, 5, 6, 40]), (12, [0, 3, 4, 5, 6]), (13, [0, 3, 60]), (14, [2]), (15, [2])], []⟩ := by kernel_rfl
-- loop.example/g01121/spec.R8Dyadic
theorem fn52 : TT.fn 52 = some Tryd.f52 := by kernel_rfl
theorem md52 : (TT.an 52).mode = 1 := by kernel_rfl
theorem fi52 : FI.of Tryd.f52 (TT.an 52) = ⟨[.tmp 2], 38, [(0, [0]), (1, [3]), (2, [3, 4]), (3, [3, 5]), (4, [3, 5, 6]), (5, [3, 5, 6, 7]), (6, [3, 5, 6, 7, 20]), (7, [3, 5, 6, 7]), (8, [3, 5, 6, 7, 8]), (9, [3, 5, 6, 7, 8]), (10, [3, 5, 6, 7]), (11, [2])], []⟩ := by kernel_rfl
-- loop.example/g01121/impl.TreeCost
theorem fn53 : TT.fn 53 = some Tryd.f53 := by kernel_rfl
theorem md53 : (TT.an 53).mode = 1 := by kernel_rfl
theorem fi53 : FI.of Tryd.f53 (TT.an 53) = ⟨[.cell 2 78, .tmp 3], 34, [(0, [0, 2]), (1, [0, 2, 9]), (2, [2, 3]), (3, [0, 2, 4]), (4, [2, 4, 13, 14, 15]), (5, [2, 4, 13, 14, 15, 16]), (6, [2, 4, 5, 6, 13, 14, 15]), (7, [2, 4, 13, 14, 15]), (8, [2, 4, 13, 14, 15]), (9, [2, 3])], [(7, [(0, 3), (0, 7)])]⟩ := by kernel_rfl
-- loop.example/g01121/impl.TreeLeaves
theorem fn54 : TT.fn 54 = some Tryd.f54 := by kernel_rfl
theorem md54 : (TT.an 54).mode = 1 := by kernel_rfl
theorem fi54 : FI.of Tryd.f54 (TT.an 54) = ⟨[.tmp 2, .tmp 3], 9, [(0, [0]), (1, [0, 6]), (2, [2, 3]), (3, [2, 3])], []⟩ := by kernel_rfl
-- loop.example/g01121/impl.IsDyadic
theorem fn55 : TT.fn 55 = some Tryd.f55 := by kernel_rfl
theorem md55 : (TT.an 55).mode = 1 := by kernel_rfl
theorem fi55 : FI.of Tryd.f55 (TT.an 55) = ⟨[.tmp 2], 18, [(0, [0]), (1, [0, 6]), (2, [2]), (3, [3]), (4, [2])], []⟩ := by kernel_rfl
-- loop.example/g01121/impl.RollTree
theorem fn56 : TT.fn 56 = some Tryd.f56 := by kernel_rfl
theorem md56 : (TT.an 56).mode = 1 := by kernel_rfl
theorem fi56 : FI.of Tryd.f56 (TT.an 56) = ⟨[.tmp 4, .tmp 5, .tmp 6], 51, [(0, [0, 1]), (1, [0, 1, 17]), (2, [4, 5, 6]), (3, [0, 1, 7]), (4, [1, 7, 19, 20, 21]), (5, [1, 7, 19, 20, 21, 22]), (6, [1, 7, 8, 9, 19, 20, 21]), (7, [1, 7, 8, 9, 19, 20, 21, 29]), (8, [4, 5, 6]), (9, [1, 7, 8, 9, 19, 20, 21, 38]), (10, [4, 5, 6]), (11, [1, 7, 19, 20, 21]), (12, [1, 7, 19, 20, 21]), (13, [4, 5, 6])], []⟩ := by kernel_rfl
-- loop.example/g01121/impl.MakeFraction
theorem fn57 : TT.fn 57 = some Tryd.f57 := by kernel_rfl
theorem md57 : (TT.an 57).mode = 1 := by kernel_rfl
theorem fi57 : FI.of Tryd.f57 (TT.an 57) = ⟨[.cell 4 78, .tmp 5], 37, [(0, [0, 1, 4]), (1, [0, 1, 4, 18]), (2, [4, 5]), (3, [0, 1, 4, 21]), (4, [0, 1, 4]), (5, [0, 1, 4, 6]), (6, [4, 5])], []⟩ := by kernel_rfl
-- loop.example/g01121/laws.r8Same
theorem fn58 : TT.fn 58 = some Tryd.f58 := by kernel_rfl
theorem md58 : (TT.an 58).mode = 1 := by kernel_rfl
theorem fi58 : FI.of Tryd.f58 (TT.an 58) = ⟨[.tmp 4], 26, [(0, [0, 1]), (1, [0, 1, 10]), (2, [4]), (3, [0, 1, 5]), (4, [0, 1, 5, 14]), (5, [0, 1, 5]), (6, [0, 1, 5, 25]), (7, [4]), (8, [4])], []⟩ := by kernel_rfl
-- loop.example/g01121/spec.l02Is
theorem fn59 : TT.fn 59 = some Tryd.f59 := by kernel_rfl
theorem md59 : (TT.an 59).mode = 0 := by kernel_rfl
theorem fi59 : FI.of Tryd.f59 (TT.an 59) = ⟨[.tmp 2], 19, [(0, [0]), (1, [2])], []⟩ := by kernel_rfl
-- loop.example/g01121/spec.l01Bits
theorem fn60 : TT.fn 60 = some Tryd.f60 := by kernel_rfl
theorem md60 : (TT.an 60).mode = 1 := by kernel_rfl
theorem fi60 : FI.of Tryd.f60 (TT.an 60) = ⟨[.tmp 2], 23, [(0, [0]), (1, [0, 3]), (2, [0, 3, 7]), (3, [0, 3]), (4, [0, 3, 19]), (5, [2]), (6, [2])], []⟩ := by kernel_rfl
-- loop.example/g01121/spec.l02Step
theorem fn61 : TT.fn 61 = some Tryd.f61 := by kernel_rfl
theorem md61 : (TT.an 61).mode = 0 := by kernel_rfl
theorem fi61 : FI.of Tryd.f61 (TT.an 61) = ⟨[.tmp 4, .tmp 5], 30, [(0, [0, 1]), (1, [0, 1, 10]), (2, [4, 5]), (3, [4, 5])], [(3, [(12, 8)])]⟩ := by kernel_rfl
-- loop.example/g01121/impl.ValidRegister
theorem fn62 : TT.fn 62 = some Tryd.f62 := by kernel_rfl
theorem md62 : (TT.an 62).mode = 1 := by kernel_rfl
theorem fi62 : FI.of Tryd.f62 (TT.an 62) = ⟨[.tmp 2], 15, [(0, [1]), (1, [2])], []⟩ := by kernel_rfl
-- loop.example/g01121/impl.IsBits
theorem fn63 : TT.fn 63 = some Tryd.f63 := by kernel_rfl
theorem md63 : (TT.an 63).mode = 1 := by kernel_rfl
theorem fi63 : FI.of Tryd.f63 (TT.an 63) = ⟨[.tmp 2], 11, [(0, [0]), (1, [2])], []⟩ := by kernel_rfl
-- (loop.example/g01121/impl.Register).bits
theorem fn64 : TT.fn 64 = some Tryd.f64 := by kernel_rfl
theorem md64 : (TT.an 64).mode = 1 := by kernel_rfl
theorem fi64 : FI.of Tryd.f64 (TT.an 64) = ⟨[.tmp 6, .tmp 7], 27, [(0, [1, 2, 3]), (1, [1, 2, 3, 8]), (2, [1, 3, 8, 11, 12]), (3, [1, 3, 8, 11, 12, 13]), (4, [3, 8, 9, 10, 11, 12]), (5, [3, 8, 9, 11, 12]), (6, [1, 3, 8, 11, 12]), (7, [1, 3, 8, 11, 12]), (8, [6, 7])], []⟩ := by kernel_rfl
-- loop.example/g01121/spec.l00From
theorem fn65 : TT.fn 65 = some Tryd.f65 := by kernel_rfl
theorem md65 : (TT.an 65).mode = 0 := by kernel_rfl
theorem fi65 : FI.of Tryd.f65 (TT.an 65) = ⟨[.tmp 2], 6, [(0, [0]), (1, [2])], []⟩ := by kernel_rfl
-- (*loop.example/g01121/spec.l00Src).pick
theorem fn66 : TT.fn 66 = some Tryd.f66 := by kernel_rfl
theorem md66 : (TT.an 66).mode = 0 := by kernel_rfl
theorem fi66 : FI.of Tryd.f66 (TT.an 66) = ⟨[.tmp 4], 20, [(0, [0, 1]), (1, [0, 1, 7]), (2, [4]), (3, [0, 1, 5]), (4, [0, 1, 5, 11]), (5, [1, 5]), (6, [4])], []⟩ := by kernel_rfl
-- (*loop.example/g01121/spec.l00Src).one
theorem fn67 : TT.fn 67 = some Tryd.f67 := by kernel_rfl
theorem md67 : (TT.an 67).mode = 0 := by kernel_rfl
theorem fi67 : FI.of Tryd.f67 (TT.an 67) = ⟨[.tmp 4], 9, [(0, [0, 1]), (1, [4])], []⟩ := by kernel_rfl
-- loop.example/g01121/impl.isRegisterState
theorem fn68 : TT.fn 68 = some Tryd.f68 := by kernel_rfl
theorem md68 : (TT.an 68).mode = 1 := by kernel_rfl
theorem fi68 : FI.of Tryd.f68 (TT.an 68) = ⟨[.tmp 4], 15, [(0, [1, 2]), (1, [4])], []⟩ := by kernel_rfl
-- loop.example/g01121/impl.inRange
theorem fn69 : TT.fn 69 = some Tryd.f69 := by kernel_rfl
theorem md69 : (TT.an 69).mode = 1 := by kernel_rfl
theorem fi69 : FI.of Tryd.f69 (TT.an 69) = ⟨[.tmp 6], 15, [(0, [0, 1, 2]), (1, [6])], []⟩ := by kernel_rfl
-- loop.example/g01121/spec.l02DrawBits
theorem fn70 : TT.fn 70 = some Tryd.f70 := by kernel_rfl
theorem md70 : (TT.an 70).mode = 0 := by kernel_rfl
theorem fi70 : FI.of Tryd.f70 (TT.an 70) = ⟨[.tmp 4], 46, [(0, [0, 1]), (1, [0, 5]), (2, [0, 5, 13]), (3, [0, 5, 6]), (4, [0, 5, 6]), (5, [4]), (6, [0, 5, 7]), (7, [0, 5, 7, 34]), (8, [0, 5, 7]), (9, [0, 5, 7]), (10, [4])], []⟩ := by kernel_rfl
-- loop.example/g01121/impl.isShort
theorem fn71 : TT.fn 71 = some Tryd.f71 := by kernel_rfl
theorem md71 : (TT.an 71).mode = 1 := by kernel_rfl
theorem fi71 : FI.of Tryd.f71 (TT.an 71) = ⟨[.tmp 2], 10, [(0, [0]), (1, [2])], []⟩ := by kernel_rfl
-- loop.example/g01121/impl.shortest
theorem fn72 : TT.fn 72 = some Tryd.f72 := by kernel_rfl
theorem md72 : (TT.an 72).mode = 1 := by kernel_rfl
theorem fi72 : FI.of Tryd.f72 (TT.an 72) = ⟨[.tmp 2, .tmp 3], 18, [(0, [0]), (1, [0, 4]), (2, [0, 4]), (3, [0, 4, 5, 6]), (4, [0, 4, 5, 15]), (5, [2, 3])], []⟩ := by kernel_rfl
-- loop.example/g01121/laws.szInt64S
theorem fn73 : TT.fn 73 = some Tryd.f73 := by kernel_rfl
theorem md73 : (TT.an 73).mode = 1 := by kernel_rfl
theorem fi73 : FI.of Tryd.f73 (TT.an 73) = ⟨[.tmp 4], 12, [(0, [0, 1]), (1, [1]), (2, [1, 10]), (3, [4]), (4, [4])], []⟩ := by kernel_rfl
-- loop.example/g01121/spec.l08Both
theorem fn74 : TT.fn 74 = some Tryd.f74 := by kernel_rfl
theorem md74 : (TT.an 74).mode = 0 := by kernel_rfl
theorem fi74 : FI.of Tryd.f74 (TT.an 74) = ⟨[.tmp 4], 15, [(0, [0, 1]), (1, [4])], []⟩ := by kernel_rfl
-- loop.example/g01121/spec.ShortestRegister
theorem fn75 : TT.fn 75 = some Tryd.f75 := by kernel_rfl
theorem md75 : (TT.an 75).mode = 1 := by kernel_rfl
theorem fi75 : FI.of Tryd.f75 (TT.an 75) = ⟨[.cell 2 27, .tmp 3, .tmp 4], 40, [(0, [0, 2]), (1, [0, 2, 10]), (2, [2, 3, 4]), (3, [0, 2, 5]), (4, [0, 2, 5, 15]), (5, [2, 3, 4]), (6, [0, 2, 5, 6]), (7, [0, 2, 5, 6, 7]), (8, [0, 2, 5, 6, 7, 19]), (9, [0, 2, 5, 6, 7]), (10, [0, 2, 5, 6, 7]), (11, [2, 3, 4])], []⟩ := by kernel_rfl
-- loop.example/g01121/spec.l08Bits
theorem fn76 : TT.fn 76 = some Tryd.f76 := by kernel_rfl
theorem md76 : (TT.an 76).mode = 0 := by kernel_rfl
theorem fi76 : FI.of Tryd.f76 (TT.an 76) = ⟨[.tmp 6], 32, [(0, [0, 1, 2]), (1, [0, 1, 2, 7]), (2, [0, 1, 2, 7, 8]), (3, [0, 1, 2, 7, 8, 14]), (4, [0, 1, 2, 7, 8]), (5, [0, 2, 7, 8, 9, 10]), (6, [0, 2, 7, 8, 9]), (7, [0, 1, 2, 7, 8]), (8, [6])], []⟩ := by kernel_rfl
-- loop.example/g01121/laws.toInt64S
theorem fn77 : TT.fn 77 = some Tryd.f77 := by kernel_rfl
theorem md77 : (TT.an 77).mode = 2 := by kernel_rfl
theorem fi77 : FI.of Tryd.f77 (TT.an 77) = ⟨[.tmp 2], 22, [(0, [0]), (1, [0, 3]), (2, [0, 3, 4]), (3, [0, 3, 4, 11]), (4, [0, 3, 4]), (5, [0, 3, 4]), (6, [2])], []⟩ := by kernel_rfl
-- loop.example/g01121/impl.isLinearState
theorem fn78 : TT.fn 78 = some Tryd.f78 := by kernel_rfl
theorem md78 : (TT.an 78).mode = 1 := by kernel_rfl
theorem fi78 : FI.of Tryd.f78 (TT.an 78) = ⟨[.tmp 4], 15, [(0, [1, 2]), (1, [4])], []⟩ := by kernel_rfl
-- (loop.example/g01121/impl.Linear).bits
theorem fn79 : TT.fn 79 = some Tryd.f79 := by kernel_rfl
theorem md79 : (TT.an 79).mode = 1 := by kernel_rfl
theorem fi79 : FI.of Tryd.f79 (TT.an 79) = ⟨[.tmp 6], 28, [(0, [1, 2, 3]), (1, [1, 2, 3, 7]), (2, [1, 3, 7, 9, 10]), (3, [1, 3, 7, 9, 10, 11]), (4, [1, 3, 7, 9, 10]), (5, [1, 3, 7, 9, 10]), (6, [1, 3, 7, 9, 10]), (7, [6])], []⟩ := by kernel_rfl
-- loop.example/g01121/spec.OfXorshift
theorem fn80 : TT.fn 80 = some Tryd.f80 := by kernel_rfl
theorem md80 : (TT.an 80).mode = 2 := by kernel_rfl
theorem fi80 : FI.of Tryd.f80 (TT.an 80) = ⟨[.cell 8 51, .tmp 9], 88, [(0, [0, 1, 2, 3, 8]), (1, [0, 1, 2, 3, 8, 34]), (2, [8, 9]), (3, [0, 1, 2, 3, 8, 10]), (4, [0, 1, 2, 3, 8, 10, 11]), (5, [0, 1, 2, 3, 8, 10, 11, 42]), (6, [0, 1, 2, 3, 8, 10, 11]), (7, [0, 1, 2, 3, 8, 10, 11, 12]), (8, [0, 1, 2, 3, 8, 10, 11, 12]), (9, [0, 1, 2, 3, 8, 10, 11, 12]), (10, [0, 1, 2, 3, 8, 10, 11, 12]), (11, [0, 1, 2, 3, 8, 10, 11, 12, 13]), (12, [0, 1, 2, 3, 8, 10, 11, 12, 13, 69]), (13, [0, 1, 2, 3, 8, 10, 11, 12, 13]), (14, [0, 1, 2, 3, 8, 10, 11, 12, 13]), (15, [8, 9])], []⟩ := by kernel_rfl
-- loop.example/g01121/spec.l08DrawSized
theorem fn81 : TT.fn 81 = some Tryd.f81 := by kernel_rfl
theorem md81 : (TT.an 81).mode = 0 := by kernel_rfl
theorem fi81 : FI.of Tryd.f81 (TT.an 81) = ⟨[.cell 4 51], 64, [(0, [0, 1, 4]), (1, [0, 1, 4, 5]), (2, [0, 1, 4, 5, 6]), (3, [0, 1, 4, 5, 6, 7]), (4, [0, 1, 4, 5, 6, 7, 16]), (5, [0, 1, 4, 5, 6, 7]), (6, [0, 1, 4, 5, 6, 7, 8]), (7, [0, 1, 4, 5, 6, 7, 8, 31]), (8, [0, 1, 4, 5, 6, 7, 8]), (9, [0, 1, 4, 5, 6, 7, 8, 37]), (10, [0, 1, 4, 5, 6, 7, 8]), (11, [0, 1, 4, 5, 6, 7]), (12, [0, 4, 5]), (13, [4, 5, 61]), (14, [4, 5]), (15, [4])], []⟩ := by kernel_rfl
-- loop.example/g01121/impl.isOrdered
theorem fn82 : TT.fn 82 = some Tryd.f82 := by kernel_rfl
theorem md82 : (TT.an 82).mode = 1 := by kernel_rfl
theorem fi82 : FI.of Tryd.f82 (TT.an 82) = ⟨[.tmp 2], 10, [(0, [0]), (1, [2])], []⟩ := by kernel_rfl
-- loop.example/g01121/impl.orderOfX
theorem fn83 : TT.fn 83 = some Tryd.f83 := by kernel_rfl
theorem md83 : (TT.an 83).mode = 1 := by kernel_rfl
theorem fi83 : FI.of Tryd.f83 (TT.an 83) = ⟨[.tmp 2], 23, [(0, [0]), (1, [0, 4]), (2, [0, 4, 5]), (3, [0, 4, 5, 12]), (4, [0, 4, 5]), (5, [0, 4, 5]), (6, [2])], []⟩ := by kernel_rfl
-- loop.example/g01121/impl.degree
theorem fn84 : TT.fn 84 = some Tryd.f84 := by kernel_rfl
theorem md84 : (TT.an 84).mode = 1 := by kernel_rfl
theorem fi84 : FI.of Tryd.f84 (TT.an 84) = ⟨[.tmp 2], 7, [(0, [0]), (1, [2])], []⟩ := by kernel_rfl
-- loop.example/g01121/spec.l04DrawSized
theorem fn85 : TT.fn 85 = some Tryd.f85 := by kernel_rfl
theorem md85 : (TT.an 85).mode = 0 := by kernel_rfl
theorem fi85 : FI.of Tryd.f85 (TT.an 85) = ⟨[.tmp 4], 49, [(0, [0, 1]), (1, [0, 1, 5]), (2, [0, 1, 5, 6]), (3, [0, 1, 5, 6, 7]), (4, [0, 1, 5, 6, 7, 8]), (5, [0, 1, 5, 6, 7, 8, 22]), (6, [0, 1, 5, 6, 7, 8]), (7, [0, 1, 5, 6, 7, 8, 9]), (8, [0, 1, 5, 6, 7, 8, 9, 30]), (9, [0, 1, 5, 6, 7, 8, 9]), (10, [0, 1, 5, 6, 7, 8, 9, 38]), (11, [0, 1, 5, 6, 7, 8, 9]), (12, [0, 1, 5, 6, 7, 8]), (13, [4])], []⟩ := by kernel_rfl
-- loop.example/g01121/impl.IsTable
theorem fn86 : TT.fn 86 = some Tryd.f86 := by kernel_rfl
theorem md86 : (TT.an 86).mode = 1 := by kernel_rfl
theorem fi86 : FI.of Tryd.f86 (TT.an 86) = ⟨[.tmp 2], 19, [(0, [0]), (1, [0, 3]), (2, [2])], []⟩ := by kernel_rfl
-- loop.example/g01121/impl.inputs
theorem fn87 : TT.fn 87 = some Tryd.f87 := by kernel_rfl
theorem md87 : (TT.an 87).mode = 1 := by kernel_rfl
theorem fi87 : FI.of Tryd.f87 (TT.an 87) = ⟨[.tmp 2], 6, [(0, [0]), (1, [2])], []⟩ := by kernel_rfl
-- loop.example/g01121/impl.length[string]
theorem fn88 : TT.fn 88 = some Tryd.f88 := by kernel_rfl
theorem md88 : (TT.an 88).mode = 1 := by kernel_rfl
theorem fi88 : FI.of Tryd.f88 (TT.an 88) = ⟨[.tmp 2], 5, [(0, [0]), (1, [2])], []⟩ := by kernel_rfl
-- slices.ContainsFunc[[]string,string]
theorem fn89 : TT.fn 89 = some Tryd.f89 := by kernel_rfl
theorem md89 : (TT.an 89).mode = 0 := by kernel_rfl
theorem fi89 : FI.of Tryd.f89 (TT.an 89) = ⟨[.tmp 4], 9, [(0, [0, 1]), (1, [4])], []⟩ := by kernel_rfl
-- loop.example/g01121/impl.CombineBits$1
theorem fn90 : TT.fn 90 = some Tryd.f90 := by kernel_rfl
theorem md90 : (TT.an 90).mode = 0 := by kernel_rfl
theorem fi90 : FI.of Tryd.f90 (TT.an 90) = ⟨[.tmp 3], 16, [(0, [0, 1]), (1, [3])], []⟩ := by kernel_rfl
-- (*strings.Builder).WriteByte
theorem fn91 : TT.fn 91 = some Tryd.f91 := by kernel_rfl
theorem md91 : (TT.an 91).mode = 0 := by kernel_rfl
theorem fi91 : FI.of Tryd.f91 (TT.an 91) = ⟨[.tmp 4], 17, [(0, [0, 1]), (1, [0, 1]), (2, []), (3, [4])], []⟩ := by kernel_rfl
-- loop.example/g01121/impl.length[int64]
theorem fn93 : TT.fn 93 = some Tryd.f93 := by kernel_rfl
theorem md93 : (TT.an 93).mode = 1 := by kernel_rfl
theorem fi93 : FI.of Tryd.f93 (TT.an 93) = ⟨[.tmp 2], 5, [(0, [0]), (1, [2])], []⟩ := by kernel_rfl
-- loop.example/g01121/impl.allIn
theorem fn94 : TT.fn 94 = some Tryd.f94 := by kernel_rfl
theorem md94 : (TT.an 94).mode = 1 := by kernel_rfl
theorem fi94 : FI.of Tryd.f94 (TT.an 94) = ⟨[.tmp 6], 11, [(0, [0, 4, 5]), (1, [6])], []⟩ := by kernel_rfl
-- loop.example/g01121/impl.normalForm
theorem fn95 : TT.fn 95 = some Tryd.f95 := by kernel_rfl
theorem md95 : (TT.an 95).mode = 1 := by kernel_rfl
theorem fi95 : FI.of Tryd.f95 (TT.an 95) = ⟨[.tmp 2], 41, [(0, [0]), (1, [3]), (2, [3, 4]), (3, [3, 4, 11]), (4, [3, 4]), (5, [3, 4, 15, 16]), (6, [3, 4, 15, 16, 17]), (7, [3, 4, 5, 15, 16]), (8, [3, 4, 5, 15, 16, 22]), (9, [3, 4, 15, 16]), (10, [3, 4, 15, 16]), (11, [2])], []⟩ := by kernel_rfl
-- loop.example/g01121/impl.fairPairs
theorem fn96 : TT.fn 96 = some Tryd.f96 := by kernel_rfl
theorem md96 : (TT.an 96).mode = 1 := by kernel_rfl
theorem fi96 : FI.of Tryd.f96 (TT.an 96) = ⟨[.tmp 2], 23, [(0, [0]), (1, [0, 3]), (2, [3, 7, 8, 9]), (3, [3, 7, 8, 9, 10]), (4, [3, 5, 7, 8, 9]), (5, [3, 5, 7, 8, 9, 17]), (6, [3, 7, 8, 9]), (7, [3, 7, 8, 9]), (8, [2])], []⟩ := by kernel_rfl
-- loop.example/g01121/impl.fairDeep
theorem fn97 : TT.fn 97 = some Tryd.f97 := by kernel_rfl
theorem md97 : (TT.an 97).mode = 1 := by kernel_rfl
theorem fi97 : FI.of Tryd.f97 (TT.an 97) = ⟨[.tmp 4], 41, [(0, [0, 1]), (1, [0, 1, 10]), (2, [4]), (3, [0, 1, 5, 6]), (4, [0, 1, 5, 6, 12, 13, 14]), (5, [0, 1, 5, 6, 12, 13, 14, 15]), (6, [0, 1, 5, 6, 8, 12, 13, 14]), (7, [0, 1, 5, 6, 8, 12, 13, 14, 22]), (8, [0, 1, 5, 6, 8, 12, 13, 14]), (9, [0, 1, 5, 6, 12, 13, 14]), (10, [0, 1, 5, 6, 12, 13, 14]), (11, [0, 1, 5, 6, 12, 13, 14]), (12, [4])], []⟩ := by kernel_rfl
-- loop.example/g01121/impl.choose
theorem fn99 : TT.fn 99 = some Tryd.f99 := by kernel_rfl
theorem md99 : (TT.an 99).mode = 1 := by kernel_rfl
theorem fi99 : FI.of Tryd.f99 (TT.an 99) = ⟨[.tmp 4], 46, [(0, [0, 1]), (1, [0, 1, 14]), (2, [4]), (3, [0, 1, 5]), (4, [0, 1, 5, 6]), (5, [0, 1, 5, 6, 21]), (6, [0, 1, 5, 6]), (7, [0, 1, 6, 7, 8]), (8, [0, 1, 6, 9]), (9, [0, 1, 5, 6]), (10, [4])], []⟩ := by kernel_rfl
-- loop.example/g01121/impl.bitsOf
theorem fn100 : TT.fn 100 = some Tryd.f100 := by kernel_rfl
theorem md100 : (TT.an 100).mode = 1 := by kernel_rfl
theorem fi100 : FI.of Tryd.f100 (TT.an 100) = ⟨[.tmp 4], 24, [(0, [0, 1]), (1, [0, 1, 5]), (2, [0, 5, 6]), (3, [0, 5, 6, 11]), (4, [0, 5, 6]), (5, [0, 5, 6]), (6, [4])], []⟩ := by kernel_rfl
-- loop.example/g01121/impl.whole
theorem fn101 : TT.fn 101 = some Tryd.f101 := by kernel_rfl
theorem md101 : (TT.an 101).mode = 1 := by kernel_rfl
theorem fi101 : FI.of Tryd.f101 (TT.an 101) = ⟨[.cell 2 131], 6, [(0, [0, 2]), (1, [2])], []⟩ := by kernel_rfl
-- loop.example/g01121/impl.leaves
theorem fn102 : TT.fn 102 = some Tryd.f102 := by kernel_rfl
theorem md102 : (TT.an 102).mode = 1 := by kernel_rfl
theorem fi102 : FI.of Tryd.f102 (TT.an 102) = ⟨[.tmp 2], 44, [(0, [0]), (1, [0, 3, 4]), (2, [0, 3, 4, 14, 15]), (3, [0, 3, 4, 14, 15, 16]), (4, [0, 3, 4, 5, 14, 15]), (5, [0, 3, 4, 5, 6, 14, 15]), (6, [0, 3, 4, 5, 6, 14, 15, 19, 20, 21]), (7, [0, 3, 4, 5, 6, 14, 15, 19, 20, 21, 22]), (8, [0, 3, 4, 5, 6, 7, 8, 14, 15, 19, 20, 21]), (9, [0, 3, 4, 5, 6, 7, 14, 15, 19, 20, 21, 32]), (10, [0, 3, 4, 5, 6, 14, 15, 19, 20, 21]), (11, [0, 3, 4, 5, 6, 14, 15, 19, 20, 21]), (12, [0, 3, 4, 14, 15]), (13, [0, 3, 4, 14, 15]), (14, [2])], []⟩ := by kernel_rfl
-- (loop.example/g01121/impl.ratio).plus
theorem fn103 : TT.fn 103 = some Tryd.f103 := by kernel_rfl
theorem md103 : (TT.an 103).mode = 1 := by kernel_rfl
theorem fi103 : FI.of Tryd.f103 (TT.an 103) = ⟨[.cell 4 131], 54, [(0, [2, 3, 4]), (1, [2, 3, 4, 5, 6]), (2, [2, 3, 4, 5, 6, 7]), (3, [4, 7]), (4, [3, 4, 5, 6, 7, 33]), (5, [4, 7]), (6, [3, 4, 5, 6, 7, 43]), (7, [4, 7]), (8, [4])], [(1, [(6, 4), (8, 4)]), (2, [(1000000, 0), (1000001, 9), (1, 6)]), (3, [(4, 2), (4, 6)])]⟩ := by kernel_rfl
-- loop.example/g01121/impl.quotient
theorem fn104 : TT.fn 104 = some Tryd.f104 := by kernel_rfl
theorem md104 : (TT.an 104).mode = 1 := by kernel_rfl
theorem fi104 : FI.of Tryd.f104 (TT.an 104) = ⟨[.cell 4 131], 14, [(0, [0, 1, 4]), (1, [4])], []⟩ := by kernel_rfl
-- (loop.example/g01121/impl.ratio).fraction
theorem fn105 : TT.fn 105 = some Tryd.f105 := by kernel_rfl
theorem md105 : (TT.an 105).mode = 1 := by kernel_rfl
theorem fi105 : FI.of Tryd.f105 (TT.an 105) = ⟨[.cell 2 78, .tmp 3], 34, [(0, [1, 2]), (1, [1, 2, 4, 5]), (2, [1, 2, 4, 5, 6, 7]), (3, [1, 2, 4, 6, 25]), (4, [2, 3]), (5, [2, 4, 6, 28]), (6, [2, 4, 6]), (7, [2, 3])], []⟩ := by kernel_rfl
-- loop.example/g01121/impl.areWeights
theorem fn106 : TT.fn 106 = some Tryd.f106 := by kernel_rfl
theorem md106 : (TT.an 106).mode = 1 := by kernel_rfl
theorem fi106 : FI.of Tryd.f106 (TT.an 106) = ⟨[.tmp 2], 15, [(0, [0]), (1, [2])], []⟩ := by kernel_rfl
-- loop.example/g01121/impl.totalOf
theorem fn107 : TT.fn 107 = some Tryd.f107 := by kernel_rfl
theorem md107 : (TT.an 107).mode = 1 := by kernel_rfl
theorem fi107 : FI.of Tryd.f107 (TT.an 107) = ⟨[.tmp 2], 17, [(0, [0]), (1, [0, 3]), (2, [3, 6, 7, 8]), (3, [3, 6, 7, 8, 9]), (4, [3, 5, 6, 7, 8]), (5, [3, 6, 7, 8]), (6, [3, 6, 7, 8]), (7, [2])], []⟩ := by kernel_rfl
-- loop.example/g01121/impl.divisor
theorem fn108 : TT.fn 108 = some Tryd.f108 := by kernel_rfl
theorem md108 : (TT.an 108).mode = 1 := by kernel_rfl
theorem fi108 : FI.of Tryd.f108 (TT.an 108) = ⟨[.tmp 4], 12, [(0, [0, 1]), (1, [0, 1, 6]), (2, [0, 1]), (3, [4])], []⟩ := by kernel_rfl
-- loop.example/g01121/impl.size
theorem fn109 : TT.fn 109 = some Tryd.f109 := by kernel_rfl
theorem md109 : (TT.an 109).mode = 1 := by kernel_rfl
theorem fi109 : FI.of Tryd.f109 (TT.an 109) = ⟨[.tmp 2], 7, [(0, [0]), (1, [2])], []⟩ := by kernel_rfl
-- loop.example/g01121/spec.l00In
theorem fn110 : TT.fn 110 = some Tryd.f110 := by kernel_rfl
theorem md110 : (TT.an 110).mode = 1 := by kernel_rfl
theorem fi110 : FI.of Tryd.f110 (TT.an 110) = ⟨[.tmp 6], 15, [(0, [0, 1, 2]), (1, [6])], []⟩ := by kernel_rfl
-- loop.example/g01121/spec.l02State
theorem fn111 : TT.fn 111 = some Tryd.f111 := by kernel_rfl
theorem md111 : (TT.an 111).mode = 1 := by kernel_rfl
theorem fi111 : FI.of Tryd.f111 (TT.an 111) = ⟨[.tmp 4], 11, [(0, [0, 1]), (1, [4])], []⟩ := by kernel_rfl
-- loop.example/g01121/spec.l02Parity
theorem fn112 : TT.fn 112 = some Tryd.f112 := by kernel_rfl
theorem md112 : (TT.an 112).mode = 1 := by kernel_rfl
theorem fi112 : FI.of Tryd.f112 (TT.an 112) = ⟨[.tmp 2], 13, [(0, [0]), (1, [0, 3]), (2, [0, 3, 5]), (3, [0, 3]), (4, [0, 3]), (5, [2])], []⟩ := by kernel_rfl
-- strings.Trim
theorem fn113 : TT.fn 113 = some Tryd.f113 := by kernel_rfl
theorem md113 : (TT.an 113).mode = 1 := by kernel_rfl
theorem fi113 : FI.of Tryd.f113 (TT.an 113) = ⟨[.tmp 4], 43, [(0, [0, 1]), (1, [0, 1, 12]), (2, [4]), (3, [0, 1, 21]), (4, [4]), (5, [0, 1, 5, 6]), (6, [0, 1, 5, 34]), (7, [4]), (8, [4])], []⟩ := by kernel_rfl
-- (loop.example/g01121/impl.Register).step
theorem fn114 : TT.fn 114 = some Tryd.f114 := by kernel_rfl
theorem md114 : (TT.an 114).mode = 1 := by kernel_rfl
theorem fi114 : FI.of Tryd.f114 (TT.an 114) = ⟨[.tmp 4, .tmp 5], 23, [(0, [1, 2]), (1, [1, 2, 8]), (2, [4, 5]), (3, [4, 5])], [(3, [(8, 6)])]⟩ := by kernel_rfl
-- loop.example/g01121/impl.bitText
theorem fn115 : TT.fn 115 = some Tryd.f115 := by kernel_rfl
theorem md115 : (TT.an 115).mode = 1 := by kernel_rfl
theorem fi115 : FI.of Tryd.f115 (TT.an 115) = ⟨[.tmp 2], 6, [(0, [0]), (1, [2])], []⟩ := by kernel_rfl
-- (*loop.example/g01121/spec.l00Src).next
theorem fn116 : TT.fn 116 = some Tryd.f116 := by kernel_rfl
theorem md116 : (TT.an 116).mode = 0 := by kernel_rfl
theorem fi116 : FI.of Tryd.f116 (TT.an 116) = ⟨[.tmp 2], 62, [(0, [0]), (1, [0, 3]), (2, [0, 3, 13]), (3, [0, 3]), (4, [0, 3]), (5, [0, 3]), (6, [0, 3, 53]), (7, [2]), (8, [2])], []⟩ := by kernel_rfl
-- loop.example/g01121/spec.l02Bits
theorem fn117 : TT.fn 117 = some Tryd.f117 := by kernel_rfl
theorem md117 : (TT.an 117).mode = 0 := by kernel_rfl
theorem fi117 : FI.of Tryd.f117 (TT.an 117) = ⟨[.tmp 6], 32, [(0, [0, 1, 2]), (1, [0, 1, 2, 7]), (2, [0, 1, 2, 7, 8]), (3, [0, 1, 2, 7, 8, 14]), (4, [0, 1, 2, 7, 8]), (5, [0, 2, 7, 8, 9, 10]), (6, [0, 2, 7, 8, 9]), (7, [0, 1, 2, 7, 8]), (8, [6])], []⟩ := by kernel_rfl
-- loop.example/g01121/impl.tapsFor
theorem fn118 : TT.fn 118 = some Tryd.f118 := by kernel_rfl
theorem md118 : (TT.an 118).mode = 1 := by kernel_rfl
theorem fi118 : FI.of Tryd.f118 (TT.an 118) = ⟨[.tmp 4, .tmp 5], 50, [(0, [0, 1]), (1, [0, 1, 6]), (2, [0, 1, 6, 7]), (3, [0, 1, 6, 7, 18]), (4, [0, 1, 6, 7]), (5, [0, 1, 6, 7, 8]), (6, [0, 1, 6, 7, 8, 21, 22]), (7, [0, 1, 6, 7, 8, 21, 22, 23]), (8, [0, 1, 6, 7, 8, 9, 21, 22]), (9, [0, 1, 6, 7, 8, 21, 22]), (10, [0, 1, 6, 7, 8, 21, 22]), (11, [0, 1, 6, 7, 47]), (12, [4, 5]), (13, [4, 5])], []⟩ := by kernel_rfl
-- loop.example/g01121/spec.l08Is
theorem fn119 : TT.fn 119 = some Tryd.f119 := by kernel_rfl
theorem md119 : (TT.an 119).mode = 0 := by kernel_rfl
theorem fi119 : FI.of Tryd.f119 (TT.an 119) = ⟨[.tmp 2], 56, [(0, [0]), (1, [0, 33]), (2, [2]), (3, [0, 3]), (4, [0, 3, 40]), (5, [0, 3]), (6, [0, 3, 55]), (7, [2]), (8, [2])], []⟩ := by kernel_rfl
-- loop.example/g01121/spec.l02Few
theorem fn120 : TT.fn 120 = some Tryd.f120 := by kernel_rfl
theorem md120 : (TT.an 120).mode = 1 := by kernel_rfl
theorem fi120 : FI.of Tryd.f120 (TT.an 120) = ⟨[.tmp 2], 10, [(0, [0]), (1, [2])], []⟩ := by kernel_rfl
-- loop.example/g01121/spec.l02Shortest
theorem fn121 : TT.fn 121 = some Tryd.f121 := by kernel_rfl
theorem md121 : (TT.an 121).mode = 1 := by kernel_rfl
theorem fi121 : FI.of Tryd.f121 (TT.an 121) = ⟨[.tmp 2], 14, [(0, [0]), (1, [0, 3]), (2, [0, 3, 10]), (3, [0, 3]), (4, [2])], []⟩ := by kernel_rfl
-- loop.example/g01121/spec.l02Least
theorem fn122 : TT.fn 122 = some Tryd.f122 := by kernel_rfl
theorem md122 : (TT.an 122).mode = 1 := by kernel_rfl
theorem fi122 : FI.of Tryd.f122 (TT.an 122) = ⟨[.tmp 4], 44, [(0, [0, 1]), (1, [0, 1, 5]), (2, [0, 1, 5, 6]), (3, [0, 1, 5, 6, 11]), (4, [0, 1, 5, 6]), (5, [0, 1, 5, 6, 7]), (6, [0, 1, 5, 6, 7, 25]), (7, [1, 5, 6, 7]), (8, [1, 5, 6, 7]), (9, [0, 1, 5, 6]), (10, [4])], []⟩ := by kernel_rfl
-- loop.example/g01121/spec.l02Equations
theorem fn123 : TT.fn 123 = some Tryd.f123 := by kernel_rfl
theorem md123 : (TT.an 123).mode = 1 := by kernel_rfl
theorem fi123 : FI.of Tryd.f123 (TT.an 123) = ⟨[.tmp 4], 40, [(0, [0, 1]), (1, [0, 1, 5]), (2, [0, 1, 5, 6]), (3, [0, 1, 5, 6, 15]), (4, [0, 1, 5, 6]), (5, [0, 1, 5, 6, 7]), (6, [0, 1, 5, 6, 7, 8]), (7, [0, 1, 5, 6, 7, 8, 20]), (8, [0, 1, 5, 6, 7, 8]), (9, [0, 1, 5, 6, 7, 8]), (10, [0, 1, 5, 6]), (11, [4])], []⟩ := by kernel_rfl
-- loop.example/g01121/spec.l08Step
theorem fn124 : TT.fn 124 = some Tryd.f124 := by kernel_rfl
theorem md124 : (TT.an 124).mode = 0 := by kernel_rfl
theorem fi124 : FI.of Tryd.f124 (TT.an 124) = ⟨[.tmp 4, .tmp 5], 19, [(0, [0, 1]), (1, [4, 5])], [(1, [(9, 5)])]⟩ := by kernel_rfl
-- loop.example/g01121/impl.ValidLinear
theorem fn125 : TT.fn 125 = some Tryd.f125 := by kernel_rfl
theorem md125 : (TT.an 125).mode = 1 := by kernel_rfl
theorem fi125 : FI.of Tryd.f125 (TT.an 125) = ⟨[.tmp 2], 32, [(0, [1]), (1, [2])], [(1, [(8, 6)])]⟩ := by kernel_rfl
-- loop.example/g01121/impl.parity
theorem fn126 : TT.fn 126 = some Tryd.f126 := by kernel_rfl
theorem md126 : (TT.an 126).mode = 1 := by kernel_rfl
theorem fi126 : FI.of Tryd.f126 (TT.an 126) = ⟨[.tmp 2], 7, [(0, [0]), (1, [2])], []⟩ := by kernel_rfl
-- loop.example/g01121/impl.applyRows
theorem fn127 : TT.fn 127 = some Tryd.f127 := by kernel_rfl
theorem md127 : (TT.an 127).mode = 1 := by kernel_rfl
theorem fi127 : FI.of Tryd.f127 (TT.an 127) = ⟨[.tmp 4], 25, [(0, [0, 1]), (1, [0, 1, 5]), (2, [1, 5, 8, 9, 10]), (3, [1, 5, 8, 9, 10, 11]), (4, [1, 5, 6, 7, 8, 9, 10]), (5, [1, 5, 8, 9, 10]), (6, [1, 5, 8, 9, 10]), (7, [4])], []⟩ := by kernel_rfl
-- loop.example/g01121/spec.l08Shift
theorem fn128 : TT.fn 128 = some Tryd.f128 := by kernel_rfl
theorem md128 : (TT.an 128).mode = 1 := by kernel_rfl
theorem fi128 : FI.of Tryd.f128 (TT.an 128) = ⟨[.tmp 6], 23, [(0, [0, 1, 2]), (1, [0, 1, 2, 8]), (2, [6]), (3, [6])], []⟩ := by kernel_rfl
-- loop.example/g01121/impl.dividePolys
theorem fn129 : TT.fn 129 = some Tryd.f129 := by kernel_rfl
theorem md129 : (TT.an 129).mode = 1 := by kernel_rfl
theorem fi129 : FI.of Tryd.f129 (TT.an 129) = ⟨[.tmp 4, .tmp 5], 29, [(0, [0, 1]), (1, [0, 1, 6]), (2, [0, 1, 6, 12]), (3, [0, 1, 6, 7]), (4, [0, 1, 6, 7]), (5, [0, 1, 6]), (6, [4, 5])], []⟩ := by kernel_rfl
-- math/bits.Len64
theorem fn130 : TT.fn 130 = some Tryd.f130 := by kernel_rfl
theorem md130 : (TT.an 130).mode = 1 := by kernel_rfl
theorem fi130 : FI.of Tryd.f130 (TT.an 130) = ⟨[.tmp 2], 25, [(0, [0, 2]), (1, [0, 2, 4]), (2, [0]), (3, [0, 2]), (4, [0, 2, 8]), (5, [0, 2]), (6, [0, 2]), (7, [0, 2, 14]), (8, [0, 2]), (9, [0, 2]), (10, [2])], []⟩ := by kernel_rfl
-- slices.IndexFunc[[]string,string]
theorem fn131 : TT.fn 131 = some Tryd.f131 := by kernel_rfl
theorem md131 : (TT.an 131).mode = 0 := by kernel_rfl
theorem fi131 : FI.of Tryd.f131 (TT.an 131) = ⟨[.tmp 4], 19, [(0, [0, 1]), (1, [0, 1, 7, 8]), (2, [0, 1, 7, 8, 9]), (3, [0, 1, 5, 7, 8]), (4, [0, 1, 5, 7, 8, 16]), (5, [4]), (6, [0, 1, 7, 8]), (7, [4])], []⟩ := by kernel_rfl
-- slices.ContainsFunc[[]int64,int64]
theorem fn133 : TT.fn 133 = some Tryd.f133 := by kernel_rfl
theorem md133 : (TT.an 133).mode = 0 := by kernel_rfl
theorem fi133 : FI.of Tryd.f133 (TT.an 133) = ⟨[.tmp 4], 9, [(0, [0, 1]), (1, [4])], []⟩ := by kernel_rfl
-- loop.example/g01121/impl.allIn$1
theorem fn134 : TT.fn 134 = some Tryd.f134 := by kernel_rfl
theorem md134 : (TT.an 134).mode = 0 := by kernel_rfl
theorem fi134 : FI.of Tryd.f134 (TT.an 134) = ⟨[.tmp 4], 10, [(0, [0, 1, 2]), (1, [4])], []⟩ := by kernel_rfl
-- loop.example/g01121/impl.pairs
theorem fn135 : TT.fn 135 = some Tryd.f135 := by kernel_rfl
theorem md135 : (TT.an 135).mode = 1 := by kernel_rfl
theorem fi135 : FI.of Tryd.f135 (TT.an 135) = ⟨[.tmp 2], 22, [(0, [0]), (1, [0, 3]), (2, [0, 3, 4]), (3, [0, 3, 4, 10]), (4, [0, 3, 4]), (5, [0, 3, 4]), (6, [2])], []⟩ := by kernel_rfl
-- unicode/utf8.RuneCountInString
theorem fn136 : TT.fn 136 = some Tryd.f136 := by kernel_rfl
theorem md136 : (TT.an 136).mode = 1 := by kernel_rfl
theorem fi136 : FI.of Tryd.f136 (TT.an 136) = ⟨[.tmp 2], 10, [(0, [0, 2]), (1, [2, 4]), (2, [2, 4, 6]), (3, [2, 4]), (4, [2])], []⟩ := by kernel_rfl
-- strings.Index
theorem fn138 : TT.fn 138 = some Tryd.f138 := by kernel_rfl
theorem md138 : (TT.an 138).mode = 1 := by kernel_rfl
theorem fi138 : FI.of Tryd.f138 (TT.an 138) = ⟨[.tmp 4], 8, [(0, [0, 1]), (1, [4])], []⟩ := by kernel_rfl
-- math/bits.Mul64
theorem fn139 : TT.fn 139 = some Tryd.f139 := by kernel_rfl
theorem md139 : (TT.an 139).mode = 1 := by kernel_rfl
theorem fi139 : FI.of Tryd.f139 (TT.an 139) = ⟨[.tmp 4, .tmp 5], 51, [(0, [0, 1]), (1, [0, 1, 6]), (2, [0, 1, 6, 7]), (3, [0, 1, 6, 7, 8]), (4, [0, 1, 6, 7, 8, 9]), (5, [0, 1, 6, 7, 8, 9, 10]), (6, [0, 1, 6, 7, 9, 11]), (7, [0, 1, 6, 7, 9, 11, 12]), (8, [0, 1, 6, 7, 9, 12, 13]), (9, [0, 1, 7, 9, 12, 13]), (10, [0, 1, 4]), (11, [4, 5])], []⟩ := by kernel_rfl
-- math/bits.Div64
theorem fn140 : TT.fn 140 = some Tryd.f140 := by kernel_rfl
theorem md140 : (TT.an 140).mode = 1 := by kernel_rfl
theorem fi140 : FI.of Tryd.f140 (TT.an 140) = ⟨[.tmp 6, .tmp 7], 135, [(0, [0, 1, 2]), (1, [0, 1, 2, 20]), (2, [0, 1, 2]), (3, [0, 1, 2, 24]), (4, [0, 1, 2]), (5, [0, 1, 2, 27]), (6, [6, 7]), (7, [0, 1, 2, 8]), (8, [0, 1, 2, 8]), (9, [0, 1, 2, 8, 9]), (10, [0, 1, 2, 8, 9, 10]), (11, [1, 2, 8, 9, 10, 11]), (12, [2, 8, 9, 10, 11, 12]), (13, [2, 8, 9, 10, 11, 12, 13]), (14, [2, 8, 9, 10, 11, 13, 14]), (15, [2, 8, 9, 10, 11, 13, 14, 15]), (16, [2, 8, 9, 10, 11, 13, 14, 15, 16]), (17, [2, 8, 9, 10, 11, 13, 14, 15, 16, 78]), (18, [2, 8, 9, 10, 11, 13, 14, 15, 16]), (19, [2, 8, 9, 10, 11, 13, 14, 15, 16]), (20, [2, 8, 9, 10, 11, 13, 14, 15, 16, 85]), (21, [2, 8, 9, 10, 14, 15, 17]), (22, [2, 8, 9, 10, 14, 15, 17, 18]), (23, [2, 8, 9, 10, 14, 15, 16, 17, 18]), (24, [2, 8, 9, 10, 14, 15, 16, 17, 18, 113]), (25, [2, 8, 9, 10, 14, 15, 16, 17, 18]), (26, [2, 8, 9, 10, 14, 15, 16, 17, 18]), (27, [2, 8, 9, 10, 14, 15, 16, 17, 18, 120]), (28, [6, 7])], []⟩ := by kernel_rfl
-- loop.example/g01121/impl.ratioOf
theorem fn141 : TT.fn 141 = some Tryd.f141 := by kernel_rfl
theorem md141 : (TT.an 141).mode = 1 := by kernel_rfl
theorem fi141 : FI.of Tryd.f141 (TT.an 141) = ⟨[.cell 2 131], 14, [(0, [1, 2]), (1, [2])], [(1, [(1, 5), (1, 6), (8, 5), (8, 6), (1, 9)])]⟩ := by kernel_rfl
-- (loop.example/g01121/impl.natural).times
theorem fn142 : TT.fn 142 = some Tryd.f142 := by kernel_rfl
theorem md142 : (TT.an 142).mode = 1 := by kernel_rfl
theorem fi142 : FI.of Tryd.f142 (TT.an 142) = ⟨[.tmp 4], 67, [(0, [0, 1]), (1, [0, 1, 5]), (2, [1, 5, 17, 18, 19]), (3, [1, 5, 17, 18, 19, 20]), (4, [1, 5, 6, 7, 17, 18, 19]), (5, [1, 5, 6, 7, 8, 17, 18, 19]), (6, [1, 5, 6, 7, 8, 17, 18, 19, 24, 25, 26]), (7, [1, 5, 6, 7, 8, 17, 18, 19, 24, 25, 26, 27]), (8, [1, 5, 6, 7, 8, 9, 10, 17, 18, 19, 24, 25, 26]), (9, [1, 5, 6, 7, 8, 9, 17, 18, 19, 24, 25, 26]), (10, [1, 5, 6, 7, 8, 17, 18, 19, 24, 25, 26]), (11, [1, 5, 6, 7, 8, 17, 18, 19, 24, 25, 26]), (12, [1, 5, 6, 7, 8, 17, 18, 19, 24, 25, 26]), (13, [1, 5, 17, 18, 19]), (14, [1, 5, 17, 18, 19]), (15, [4])], []⟩ := by kernel_rfl
-- (loop.example/g01121/impl.natural).plus
theorem fn143 : TT.fn 143 = some Tryd.f143 := by kernel_rfl
theorem md143 : (TT.an 143).mode = 1 := by kernel_rfl
theorem fi143 : FI.of Tryd.f143 (TT.an 143) = ⟨[.tmp 4], 56, [(0, [0, 1]), (1, [0, 1, 12]), (2, [0, 1]), (3, [0, 1, 5, 6]), (4, [0, 1, 5, 6, 20, 21]), (5, [0, 1, 5, 6, 20, 21, 22]), (6, [0, 1, 5, 6, 7, 20, 21]), (7, [0, 1, 5, 6, 7, 20, 21, 27]), (8, [0, 1, 5, 6, 7, 20, 21]), (9, [0, 1, 5, 6, 7, 20, 21, 38]), (10, [0, 1, 5, 6, 7, 20, 21]), (11, [0, 1, 5, 6, 20, 21]), (12, [0, 1, 5, 6, 20, 21]), (13, [0, 1, 5, 6, 20, 21]), (14, [4])], []⟩ := by kernel_rfl
-- (loop.example/g01121/impl.natural).compare
theorem fn144 : TT.fn 144 = some Tryd.f144 := by kernel_rfl
theorem md144 : (TT.an 144).mode = 1 := by kernel_rfl
theorem fi144 : FI.of Tryd.f144 (TT.an 144) = ⟨[.tmp 4], 41, [(0, [0, 1]), (1, [0, 1, 10]), (2, [4]), (3, [0, 1, 5]), (4, [0, 1, 5, 20]), (5, [0, 1, 5]), (6, [0, 1, 5, 31]), (7, [40]), (8, [4]), (9, [4]), (10, [4])], []⟩ := by kernel_rfl
-- (loop.example/g01121/impl.natural).minus
theorem fn145 : TT.fn 145 = some Tryd.f145 := by kernel_rfl
theorem md145 : (TT.an 145).mode = 0 := by kernel_rfl
theorem fi145 : FI.of Tryd.f145 (TT.an 145) = ⟨[.tmp 4], 47, [(0, [0, 1]), (1, [0, 1, 5, 6]), (2, [0, 1, 5, 6, 13, 14]), (3, [0, 1, 5, 6, 13, 14, 15]), (4, [0, 1, 5, 6, 7, 13, 14]), (5, [0, 1, 5, 7, 8, 13, 14]), (6, [0, 1, 5, 7, 8, 13, 14, 27]), (7, [0, 1, 5, 7, 8, 13, 14]), (8, [0, 1, 5, 6, 7, 8, 13, 14]), (9, [0, 1, 5, 6, 7, 8, 13, 14, 36]), (10, [0, 1, 5, 7, 8, 13, 14]), (11, [0, 1, 5, 6, 7, 8, 13, 14]), (12, [0, 1, 5, 6, 13, 14]), (13, [0, 1, 5, 6, 13, 14]), (14, [4])], []⟩ := by kernel_rfl
-- (loop.example/g01121/impl.ratio).lowest
theorem fn146 : TT.fn 146 = some Tryd.f146 := by kernel_rfl
theorem md146 : (TT.an 146).mode = 1 := by kernel_rfl
theorem fi146 : FI.of Tryd.f146 (TT.an 146) = ⟨[.cell 2 131], 31, [(0, [1, 2]), (1, [1, 2, 7]), (2, [2]), (3, [1, 2, 3]), (4, [1, 2, 3]), (5, [1, 2]), (6, [2])], []⟩ := by kernel_rfl
-- loop.example/g01121/impl.naturalOf
theorem fn147 : TT.fn 147 = some Tryd.f147 := by kernel_rfl
theorem md147 : (TT.an 147).mode = 1 := by kernel_rfl
theorem fi147 : FI.of Tryd.f147 (TT.an 147) = ⟨[.tmp 2], 10, [(0, [0]), (1, [2])], []⟩ := by kernel_rfl
-- (loop.example/g01121/impl.natural).small
theorem fn148 : TT.fn 148 = some Tryd.f148 := by kernel_rfl
theorem md148 : (TT.an 148).mode = 1 := by kernel_rfl
theorem fi148 : FI.of Tryd.f148 (TT.an 148) = ⟨[.tmp 2, .tmp 3], 30, [(0, [0]), (1, [0, 9]), (2, [2, 3]), (3, [0, 4]), (4, [4, 10, 11, 12]), (5, [4, 10, 11, 12, 13]), (6, [4, 5, 6, 10, 11, 12]), (7, [4, 10, 11, 12]), (8, [4, 10, 11, 12]), (9, [2, 3])], []⟩ := by kernel_rfl
-- strings.trimLeftByte
theorem fn149 : TT.fn 149 = some Tryd.f149 := by kernel_rfl
theorem md149 : (TT.an 149).mode = 1 := by kernel_rfl
theorem fi149 : FI.of Tryd.f149 (TT.an 149) = ⟨[.tmp 4], 17, [(0, [0, 1]), (1, [0, 1, 13]), (2, [0, 1]), (3, [4])], []⟩ := by kernel_rfl
-- strings.trimRightByte
theorem fn150 : TT.fn 150 = some Tryd.f150 := by kernel_rfl
theorem md150 : (TT.an 150).mode = 1 := by kernel_rfl
theorem fi150 : FI.of Tryd.f150 (TT.an 150) = ⟨[.tmp 4], 23, [(0, [0, 1]), (1, [0, 1, 16]), (2, [0, 1]), (3, [4])], []⟩ := by kernel_rfl
-- strings.makeASCIISet
theorem fn151 : TT.fn 151 = some Tryd.f151 := by kernel_rfl
theorem md151 : (TT.an 151).mode = 1 := by kernel_rfl
theorem fi151 : FI.of Tryd.f151 (TT.an 151) = ⟨[.cell 2 173, .tmp 3], 21, [(0, [0, 2]), (1, [0, 2, 4]), (2, [0, 2, 4, 9]), (3, [0, 2, 4]), (4, [0, 2, 4, 5]), (5, [0, 2, 4, 5, 16]), (6, [2, 3]), (7, [0, 2, 4]), (8, [2, 3])], []⟩ := by kernel_rfl
-- strings.trimLeftASCII
theorem fn152 : TT.fn 152 = some Tryd.f152 := by kernel_rfl
theorem md152 : (TT.an 152).mode = 0 := by kernel_rfl
theorem fi152 : FI.of Tryd.f152 (TT.an 152) = ⟨[.tmp 4], 16, [(0, [0, 1]), (1, [0, 1, 7]), (2, [0, 1, 12]), (3, [0, 1]), (4, [4])], []⟩ := by kernel_rfl
-- strings.trimRightASCII
theorem fn153 : TT.fn 153 = some Tryd.f153 := by kernel_rfl
theorem md153 : (TT.an 153).mode = 0 := by kernel_rfl
theorem fi153 : FI.of Tryd.f153 (TT.an 153) = ⟨[.tmp 4], 22, [(0, [0, 1]), (1, [0, 1, 7]), (2, [0, 1, 15]), (3, [0, 1]), (4, [4])], []⟩ := by kernel_rfl
-- strings.trimLeftUnicode
theorem fn154 : TT.fn 154 = some Tryd.f154 := by kernel_rfl
theorem md154 : (TT.an 154).mode = 1 := by kernel_rfl
theorem fi154 : FI.of Tryd.f154 (TT.an 154) = ⟨[.tmp 4], 23, [(0, [0, 1]), (1, [0, 1, 9]), (2, [0, 1, 5, 6]), (3, [0, 1, 6, 18]), (4, [0, 1]), (5, [4])], []⟩ := by kernel_rfl
-- strings.trimRightUnicode
theorem fn155 : TT.fn 155 = some Tryd.f155 := by kernel_rfl
theorem md155 : (TT.an 155).mode = 1 := by kernel_rfl
theorem fi155 : FI.of Tryd.f155 (TT.an 155) = ⟨[.tmp 4], 34, [(0, [0, 1]), (1, [0, 1, 9]), (2, [0, 1, 5, 6]), (3, [0, 1, 5, 6, 17]), (4, [0, 1, 5, 6]), (5, [0, 1, 6, 26]), (6, [0, 1]), (7, [4])], []⟩ := by kernel_rfl
-- (*loop.example/g01121/impl.equations).add
theorem fn156 : TT.fn 156 = some Tryd.f156 := by kernel_rfl
theorem md156 : (TT.an 156).mode = 0 := by kernel_rfl
theorem fi156 : FI.of Tryd.f156 (TT.an 156) = ⟨[.tmp 6], 64, [(0, [0, 1, 2]), (1, [0, 7]), (2, [0, 7, 23]), (3, [6]), (4, [0, 7, 29, 30, 31]), (5, [0, 7, 29, 30, 31, 32]), (6, [0, 7, 8, 9, 29, 30, 31]), (7, [0, 7, 8, 29, 30, 31, 42]), (8, [0, 7, 29, 30, 31]), (9, [0, 7, 29, 30, 31]), (10, []), (11, [6])], []⟩ := by kernel_rfl
-- (*loop.example/g01121/impl.equations).least
theorem fn157 : TT.fn 157 = some Tryd.f157 := by kernel_rfl
theorem md157 : (TT.an 157).mode = 0 := by kernel_rfl
theorem fi157 : FI.of Tryd.f157 (TT.an 157) = ⟨[.tmp 2], 29, [(0, [0]), (1, [0, 3]), (2, [0, 3, 9, 10, 11]), (3, [0, 3, 9, 10, 11, 12]), (4, [0, 3, 5, 9, 10, 11]), (5, [0, 3, 9, 10, 11]), (6, [0, 3, 9, 10, 11]), (7, [2])], [(5, [(5, 9)])]⟩ := by kernel_rfl
-- loop.example/g01121/spec.l02Solves
theorem fn158 : TT.fn 158 = some Tryd.f158 := by kernel_rfl
theorem md158 : (TT.an 158).mode = 1 := by kernel_rfl
theorem fi158 : FI.of Tryd.f158 (TT.an 158) = ⟨[.tmp 4], 89, [(0, [0, 1]), (1, [1, 5]), (2, [1, 5, 6]), (3, [1, 5, 6, 16]), (4, [1, 5, 6]), (5, [1, 5, 6, 7]), (6, [1, 5, 6, 7, 32]), (7, [1, 5, 6, 7]), (8, [1, 5, 6, 7, 38]), (9, [1, 5, 6, 7, 8]), (10, [1, 5, 6, 7, 8, 9]), (11, [1, 5, 6, 7, 8, 9, 10]), (12, [1, 5, 6, 7, 8, 9, 10, 47]), (13, [1, 5, 6, 7, 8, 9, 10]), (14, [1, 5, 6, 7, 8, 9, 10, 52]), (15, [1, 5, 6, 7, 8, 9, 10, 60]), (16, [1, 5, 6, 7, 8, 9, 10]), (17, [1, 5, 6, 7, 8, 9, 10]), (18, [1, 5, 6]), (19, [5, 11]), (20, [5, 11, 81]), (21, [5, 11]), (22, [5, 11, 88]), (23, [4]), (24, [4])], []⟩ := by kernel_rfl
-- loop.example/g01121/spec.l00Own
theorem fn159 : TT.fn 159 = some Tryd.f159 := by kernel_rfl
theorem md159 : (TT.an 159).mode = 2 := by kernel_rfl
theorem fi159 : FI.of Tryd.f159 (TT.an 159) = ⟨[.tmp 2], 6, [(0, [0]), (1, [2])], []⟩ := by kernel_rfl
-- loop.example/g01121/spec.l08Map
theorem fn160 : TT.fn 160 = some Tryd.f160 := by kernel_rfl
theorem md160 : (TT.an 160).mode = 1 := by kernel_rfl
theorem fi160 : FI.of Tryd.f160 (TT.an 160) = ⟨[.tmp 4], 26, [(0, [0, 1]), (1, [0, 1, 5]), (2, [0, 1, 5, 6]), (3, [0, 1, 5, 6, 10]), (4, [0, 1, 5, 6]), (5, [0, 1, 5, 6]), (6, [4])], []⟩ := by kernel_rfl
-- math/bits.OnesCount64
theorem fn161 : TT.fn 161 = some Tryd.f161 := by kernel_rfl
theorem md161 : (TT.an 161).mode = 1 := by kernel_rfl
theorem fi161 : FI.of Tryd.f161 (TT.an 161) = ⟨[.tmp 2], 35, [(0, [0]), (1, [0]), (2, [0]), (3, [0]), (4, [0]), (5, [0]), (6, [0]), (7, [2])], []⟩ := by kernel_rfl
-- slices.IndexFunc[[]int64,int64]
theorem fn163 : TT.fn 163 = some Tryd.f163 := by kernel_rfl
theorem md163 : (TT.an 163).mode = 0 := by kernel_rfl
theorem fi163 : FI.of Tryd.f163 (TT.an 163) = ⟨[.tmp 4], 19, [(0, [0, 1]), (1, [0, 1, 7, 8]), (2, [0, 1, 7, 8, 9]), (3, [0, 1, 5, 7, 8]), (4, [0, 1, 5, 7, 8, 16]), (5, [4]), (6, [0, 1, 7, 8]), (7, [4])], []⟩ := by kernel_rfl
-- internal/stringslite.Index
theorem fn164 : TT.fn 164 = some Tryd.f164 := by kernel_rfl
theorem md164 : (TT.an 164).mode = 1 := by kernel_rfl
theorem fi164 : FI.of Tryd.f164 (TT.an 164) = ⟨[.tmp 4], 143, [(0, [0, 1]), (1, [0, 1, 5]), (2, [0, 1, 5, 16]), (3, [4]), (4, [0, 1, 5, 24]), (5, [4]), (6, [0, 1, 5, 31]), (7, [4]), (8, [0, 1, 5, 36]), (9, [4]), (10, [0, 1, 5, 6]), (11, [0, 1, 5, 6, 7]), (12, [0, 1, 5, 6, 7, 8]), (13, [0, 1, 5, 6, 7, 8, 9]), (14, [0, 1, 5, 6, 7, 8, 9, 10]), (15, [0, 1, 5, 6, 7, 8, 9, 10, 59]), (16, [0, 1, 5, 6, 7, 8, 9, 10, 64]), (17, [0, 1, 5, 6, 7, 8, 9, 10, 11]), (18, [0, 1, 5, 6, 7, 8, 9, 10, 11, 73]), (19, [4]), (20, [0, 1, 5, 6, 7, 8, 9, 10]), (21, [0, 1, 5, 6, 7, 8, 9, 10, 93]), (22, [4]), (23, [0, 1, 5, 6, 7, 8, 9, 10]), (24, [0, 1, 5, 6, 7, 8, 9, 10]), (25, [0, 1, 5, 6, 7, 8, 9, 10, 107]), (26, [8, 12]), (27, [8, 12, 114]), (28, [4]), (29, [4]), (30, [0, 1, 5, 6, 7, 8, 9, 10, 132]), (31, [8, 13]), (32, [8, 13, 139]), (33, [4]), (34, [4]), (35, [4])], []⟩ := by kernel_rfl
-- math/bits.LeadingZeros64
theorem fn165 : TT.fn 165 = some Tryd.f165 := by kernel_rfl
theorem md165 : (TT.an 165).mode = 1 := by kernel_rfl
theorem fi165 : FI.of Tryd.f165 (TT.an 165) = ⟨[.tmp 2], 6, [(0, [0]), (1, [2])], []⟩ := by kernel_rfl
-- (loop.example/g01121/impl.natural).trim
theorem fn166 : TT.fn 166 = some Tryd.f166 := by kernel_rfl
theorem md166 : (TT.an 166).mode = 1 := by kernel_rfl
theorem fi166 : FI.of Tryd.f166 (TT.an 166) = ⟨[.tmp 2], 21, [(0, [0]), (1, [0, 3]), (2, [0, 3, 15]), (3, [0, 3]), (4, [2])], []⟩ := by kernel_rfl
-- (loop.example/g01121/impl.natural).shared
theorem fn167 : TT.fn 167 = some Tryd.f167 := by kernel_rfl
theorem md167 : (TT.an 167).mode = 1 := by kernel_rfl
theorem fi167 : FI.of Tryd.f167 (TT.an 167) = ⟨[.tmp 4], 19, [(0, [0, 1]), (1, [0, 1, 9]), (2, [1, 6]), (3, [0, 1]), (4, [4])], []⟩ := by kernel_rfl
-- (loop.example/g01121/impl.natural).over
theorem fn168 : TT.fn 168 = some Tryd.f168 := by kernel_rfl
theorem md168 : (TT.an 168).mode = 1 := by kernel_rfl
theorem fi168 : FI.of Tryd.f168 (TT.an 168) = ⟨[.tmp 4, .tmp 5], 132, [(0, [0, 1]), (1, [0, 1, 21]), (2, [4, 5]), (3, [0, 1, 6]), (4, [6, 7, 8]), (5, [6, 7, 8, 9]), (6, [6, 7, 8, 9, 10]), (7, [6, 7, 8, 9, 10, 11]), (8, [6, 7, 8, 9, 10, 11, 48]), (9, [6, 7, 8, 9, 10, 11]), (10, [6, 7, 8, 9, 10, 11, 12]), (11, [6, 7, 8, 9, 10, 11, 13]), (12, [6, 7, 8, 9, 10, 11, 13, 14]), (13, [6, 7, 8, 9, 10, 11, 13, 14, 93]), (14, [6, 7, 8, 9, 10, 11, 13, 15]), (15, [6, 7, 8, 9, 10, 11, 13, 15]), (16, [6, 7, 8, 9, 10, 11, 13]), (17, [6, 7, 8, 9, 10, 11, 13]), (18, [6, 7, 8, 9, 10, 11]), (19, [10, 17]), (20, [4, 5])], []⟩ := by kernel_rfl
-- (*strings.asciiSet).contains
theorem fn169 : TT.fn 169 = some Tryd.f169 := by kernel_rfl
theorem md169 : (TT.an 169).mode = 0 := by kernel_rfl
theorem fi169 : FI.of Tryd.f169 (TT.an 169) = ⟨[.tmp 4], 10, [(0, [0, 1]), (1, [4])], []⟩ := by kernel_rfl
-- unicode/utf8.DecodeRuneInString
theorem fn170 : TT.fn 170 = some Tryd.f170 := by kernel_rfl
theorem md170 : (TT.an 170).mode = 1 := by kernel_rfl
theorem fi170 : FI.of Tryd.f170 (TT.an 170) = ⟨[.tmp 2, .tmp 3], 19, [(0, [0]), (1, [0, 10]), (2, [2, 3]), (3, [2, 3])], []⟩ := by kernel_rfl
-- strings.ContainsRune
theorem fn171 : TT.fn 171 = some Tryd.f171 := by kernel_rfl
theorem md171 : (TT.an 171).mode = 1 := by kernel_rfl
theorem fi171 : FI.of Tryd.f171 (TT.an 171) = ⟨[.tmp 4], 9, [(0, [0, 1]), (1, [4])], []⟩ := by kernel_rfl
-- unicode/utf8.DecodeLastRuneInString
theorem fn172 : TT.fn 172 = some Tryd.f172 := by kernel_rfl
theorem md172 : (TT.an 172).mode = 1 := by kernel_rfl
theorem fi172 : FI.of Tryd.f172 (TT.an 172) = ⟨[.tmp 2, .tmp 3], 51, [(0, [0]), (1, [0, 4]), (2, [0, 4, 10]), (3, [2, 3]), (4, [0, 4, 5]), (5, [0, 2, 4, 5]), (6, [0, 2, 4, 5, 18]), (7, [2, 3]), (8, [0, 4, 5, 6]), (9, [0, 4, 5, 6]), (10, [0, 4, 5, 6, 27]), (11, [0, 4, 5, 6]), (12, [0, 4, 5, 6, 33]), (13, [0, 4, 5, 35]), (14, [0, 4, 5]), (15, [2, 3, 4, 5]), (16, [2, 3, 48]), (17, [2, 3]), (18, [2, 3])], []⟩ := by kernel_rfl
-- (*loop.example/g01121/impl.equations).reduced
theorem fn173 : TT.fn 173 = some Tryd.f173 := by kernel_rfl
theorem md173 : (TT.an 173).mode = 0 := by kernel_rfl
theorem fi173 : FI.of Tryd.f173 (TT.an 173) = ⟨[.tmp 4], 30, [(0, [0, 1]), (1, [0, 1, 11, 12, 13]), (2, [0, 1, 11, 12, 13, 14]), (3, [0, 1, 6, 11, 12, 13]), (4, [0, 1, 6, 7, 11, 12, 13]), (5, [0, 1, 6, 11, 12, 13, 24]), (6, [0, 1, 11, 12, 13]), (7, [0, 1, 11, 12, 13]), (8, [4])], []⟩ := by kernel_rfl
-- (*loop.example/g01121/impl.equations).lead
theorem fn174 : TT.fn 174 = some Tryd.f174 := by kernel_rfl
theorem md174 : (TT.an 174).mode = 0 := by kernel_rfl
theorem fi174 : FI.of Tryd.f174 (TT.an 174) = ⟨[.tmp 4], 19, [(0, [0, 1]), (1, [5]), (2, [4])], []⟩ := by kernel_rfl
-- internal/stringslite.IndexByte
theorem fn175 : TT.fn 175 = some Tryd.f175 := by kernel_rfl
theorem md175 : (TT.an 175).mode = 1 := by kernel_rfl
theorem fi175 : FI.of Tryd.f175 (TT.an 175) = ⟨[.tmp 4], 8, [(0, [0, 1]), (1, [4])], []⟩ := by kernel_rfl
-- internal/bytealg.Cutover
theorem fn177 : TT.fn 177 = some Tryd.f177 := by kernel_rfl
theorem md177 : (TT.an 177).mode = 1 := by kernel_rfl
theorem fi177 : FI.of Tryd.f177 (TT.an 177) = ⟨[.tmp 2], 6, [(0, [0]), (1, [2])], []⟩ := by kernel_rfl
-- internal/bytealg.IndexRabinKarp[string]
theorem fn178 : TT.fn 178 = some Tryd.f178 := by kernel_rfl
theorem md178 : (TT.an 178).mode = 1 := by kernel_rfl
theorem fi178 : FI.of Tryd.f178 (TT.an 178) = ⟨[.tmp 4], 81, [(0, [0, 1]), (1, [0, 1, 5, 6]), (2, [0, 1, 5, 6, 7]), (3, [0, 1, 5, 6, 7, 8]), (4, [0, 1, 5, 6, 7, 8, 9]), (5, [0, 1, 5, 6, 7, 8, 9, 20]), (6, [0, 1, 5, 6, 7, 8, 9]), (7, [0, 1, 5, 6, 7, 8, 9]), (8, [0, 1, 5, 6, 7, 8, 39]), (9, [4]), (10, [0, 1, 5, 6, 7, 8, 10]), (11, [0, 1, 5, 6, 7, 8, 10, 44]), (12, [0, 1, 5, 6, 7, 8, 10]), (13, [0, 1, 5, 6, 7, 8, 10]), (14, [0, 1, 5, 6, 7, 8, 10]), (15, [0, 1, 5, 6, 7, 8, 10]), (16, [0, 1, 5, 6, 7, 8, 10, 77]), (17, [4]), (18, [4])], []⟩ := by kernel_rfl
-- math/bits.LeadingZeros32
theorem fn179 : TT.fn 179 = some Tryd.f179 := by kernel_rfl
theorem md179 : (TT.an 179).mode = 1 := by kernel_rfl
theorem fi179 : FI.of Tryd.f179 (TT.an 179) = ⟨[.tmp 2], 6, [(0, [0]), (1, [2])], []⟩ := by kernel_rfl
-- (loop.example/g01121/impl.natural).up
theorem fn180 : TT.fn 180 = some Tryd.f180 := by kernel_rfl
theorem md180 : (TT.an 180).mode = 2 := by kernel_rfl
theorem fi180 : FI.of Tryd.f180 (TT.an 180) = ⟨[.tmp 4], 41, [(0, [0, 1]), (1, [0, 1, 5, 6]), (2, [0, 1, 5, 6, 13, 14, 15]), (3, [0, 1, 5, 6, 13, 14, 15, 16]), (4, [0, 1, 5, 6, 7, 8, 13, 14, 15]), (5, [0, 1, 5, 6, 7, 13, 14, 15]), (6, [0, 1, 5, 6, 13, 14, 15]), (7, [0, 1, 5, 6, 13, 14, 15]), (8, [0, 1, 5, 6, 13, 14, 15]), (9, [5]), (10, [4])], []⟩ := by kernel_rfl
-- slices.Clone[loop.example/g01121/impl.natural,uint32]
theorem fn181 : TT.fn 181 = some Tryd.f181 := by kernel_rfl
theorem md181 : (TT.an 181).mode = 2 := by kernel_rfl
theorem fi181 : FI.of Tryd.f181 (TT.an 181) = ⟨[.tmp 2], 8, [(0, [0]), (1, [0, 4]), (2, [2]), (3, [2])], []⟩ := by kernel_rfl
-- (loop.example/g01121/impl.natural).down
theorem fn182 : TT.fn 182 = some Tryd.f182 := by kernel_rfl
theorem md182 : (TT.an 182).mode = 1 := by kernel_rfl
theorem fi182 : FI.of Tryd.f182 (TT.an 182) = ⟨[.tmp 4, .tmp 5], 43, [(0, [0, 1]), (1, [0, 1, 6, 7]), (2, [0, 1, 6, 7, 8]), (3, [0, 1, 6, 7, 8, 16]), (4, [0, 1, 6, 7, 8]), (5, [0, 1, 6, 7, 8]), (6, [0, 1, 6, 7, 8]), (7, [0, 1, 6, 7, 8]), (8, [4, 5])], []⟩ := by kernel_rfl
-- unicode/utf8.decodeRuneInStringSlow
theorem fn183 : TT.fn 183 = some Tryd.f183 := by kernel_rfl
theorem md183 : (TT.an 183).mode = 1 := by kernel_rfl
theorem fi183 : FI.of Tryd.f183 (TT.an 183) = ⟨[.tmp 2, .tmp 3], 117, [(0, [0]), (1, [0, 4]), (2, [0, 4, 16]), (3, [2, 3]), (4, [0, 4, 5]), (5, [0, 4, 5, 6]), (6, [0, 4, 5, 6, 23]), (7, [0, 7]), (8, [2, 3]), (9, [0, 4, 5, 6, 8]), (10, [0, 4, 5, 8, 9]), (11, [0, 5, 8, 9, 45]), (12, [2, 3]), (13, [0, 5, 8, 9, 10]), (14, [0, 5, 8, 10, 57]), (15, [2, 3]), (16, [0, 5, 8, 10, 59]), (17, [2, 3]), (18, [0, 5, 8, 10, 11]), (19, [0, 5, 8, 10, 11, 75]), (20, [2, 3]), (21, [0, 5, 10, 11, 77]), (22, [2, 3]), (23, [5, 10, 11, 12]), (24, [5, 10, 11, 12, 98]), (25, [2, 3]), (26, [2, 3])], []⟩ := by kernel_rfl
-- strings.IndexRune
theorem fn184 : TT.fn 184 = some Tryd.f184 := by kernel_rfl
theorem md184 : (TT.an 184).mode = 1 := by kernel_rfl
theorem fi184 : FI.of Tryd.f184 (TT.an 184) = ⟨[.tmp 4], 187, [(0, [0, 1, 4]), (34, [0, 1, 4, 160]), (35, [4]), (36, [0, 1, 4, 171]), (37, [175]), (38, [175, 176, 177]), (39, [5, 6, 175]), (40, [5, 175, 181]), (41, [4]), (42, [4]), (43, [4, 183]), (44, [4])], []⟩ := by kernel_rfl
-- unicode/utf8.RuneStart
theorem fn185 : TT.fn 185 = some Tryd.f185 := by kernel_rfl
theorem md185 : (TT.an 185).mode = 1 := by kernel_rfl
theorem fi185 : FI.of Tryd.f185 (TT.an 185) = ⟨[.tmp 2], 6, [(0, [0]), (1, [2])], []⟩ := by kernel_rfl
-- internal/bytealg.hashStr[string]
theorem fn187 : TT.fn 187 = some Tryd.f187 := by kernel_rfl
theorem md187 : (TT.an 187).mode = 1 := by kernel_rfl
theorem fi187 : FI.of Tryd.f187 (TT.an 187) = ⟨[.tmp 2, .tmp 3], 39, [(0, [0]), (1, [0, 4]), (2, [0, 4, 5]), (3, [0, 4, 5, 12]), (4, [0, 4, 5]), (5, [0, 4, 5]), (6, [0, 4, 6, 7]), (7, [4, 6, 7, 8]), (8, [4, 6, 7, 8, 25]), (9, [4, 6, 7, 8]), (10, [4, 6, 7, 8, 30]), (11, [4, 6, 7, 8]), (12, [4, 6, 7, 8]), (13, [2, 3])], []⟩ := by kernel_rfl
-- math/bits.Len32
theorem fn188 : TT.fn 188 = some Tryd.f188 := by kernel_rfl
theorem md188 : (TT.an 188).mode = 1 := by kernel_rfl
theorem fi188 : FI.of Tryd.f188 (TT.an 188) = ⟨[.tmp 2], 19, [(0, [0, 2]), (1, [0, 2, 4]), (2, [0]), (3, [0, 2]), (4, [0, 2, 8]), (5, [0, 2]), (6, [0, 2]), (7, [2])], []⟩ := by kernel_rfl
-- strings.IndexByte
theorem fn189 : TT.fn 189 = some Tryd.f189 := by kernel_rfl
theorem md189 : (TT.an 189).mode = 1 := by kernel_rfl
theorem fi189 : FI.of Tryd.f189 (TT.an 189) = ⟨[.tmp 4], 8, [(0, [0, 1]), (1, [4])], []⟩ := by kernel_rfl
-- unicode/utf8.ValidRune
theorem fn190 : TT.fn 190 = some Tryd.f190 := by kernel_rfl
theorem md190 : (TT.an 190).mode = 1 := by kernel_rfl
theorem fi190 : FI.of Tryd.f190 (TT.an 190) = ⟨[.tmp 2], 17, [(0, [0]), (1, [0, 3]), (2, [2]), (3, [10]), (4, [2]), (5, [2])], []⟩ := by kernel_rfl
theorem ty1 : TT.ty 1 = some ⟨.func, 1, 8, [.nilF]⟩ := by kernel_rfl
theorem ty2 : TT.ty 2 = some ⟨.int .i64, 1, 8, [.int .i64 0]⟩ := by kernel_rfl
theorem ty3 : TT.ty 3 = some ⟨.int .i64, 1, 8, [.int .i64 0]⟩ := by kernel_rfl
theorem ty4 : TT.ty 4 = some ⟨.bool, 1, 1, [.bool false]⟩ := by kernel_rfl
theorem ty5 : TT.ty 5 = some ⟨.int .u8, 1, 1, [.int .u8 0]⟩ := by kernel_rfl
theorem ty6 : TT.ty 6 = some ⟨.int .u8, 1, 1, [.int .u8 0]⟩ := by kernel_rfl
theorem ty7 : TT.ty 7 = some ⟨.struct [(2, 0), (3, 1), (4, 2), (6, 3)], 4, 24, [.int .i64 0, .int .i64 0, .bool false, .int .u8 0]⟩ := by kernel_rfl
theorem ty8 : TT.ty 8 = some ⟨.struct [(2, 0), (3, 1), (4, 2), (6, 3)], 4, 24, [.int .i64 0, .int .i64 0, .bool false, .int .u8 0]⟩ := by kernel_rfl
theorem ty9 : TT.ty 9 = some ⟨.string, 1, 16, [.str []]⟩ := by kernel_rfl
theorem ty10 : TT.ty 10 = some ⟨.string, 1, 16, [.str []]⟩ := by kernel_rfl
theorem ty11 : TT.ty 11 = some ⟨.string, 1, 16, [.str []]⟩ := by kernel_rfl
theorem ty12 : TT.ty 12 = some ⟨.int .u64, 1, 8, [.int .u64 0]⟩ := by kernel_rfl
theorem ty15 : TT.ty 15 = some ⟨.pointer, 1, 8, [.nilP]⟩ := by kernel_rfl
theorem ty16 : TT.ty 16 = some ⟨.pointer, 1, 8, [.nilP]⟩ := by kernel_rfl
theorem ty17 : TT.ty 17 = some ⟨.pointer, 1, 8, [.nilP]⟩ := by kernel_rfl
theorem ty20 : TT.ty 20 = some ⟨.iface, 1, 16, [.nilI]⟩ := by kernel_rfl
theorem ty21 : TT.ty 21 = some ⟨.int .i32, 1, 4, [.int .i32 0]⟩ := by kernel_rfl
theorem ty22 : TT.ty 22 = some ⟨.struct [(2, 0), (2, 1)], 2, 16, [.int .i64 0, .int .i64 0]⟩ := by kernel_rfl
theorem ty23 : TT.ty 23 = some ⟨.struct [(2, 0), (2, 1)], 2, 16, [.int .i64 0, .int .i64 0]⟩ := by kernel_rfl
theorem ty24 : TT.ty 24 = some ⟨.slice 2, 1, 24, [.nilS]⟩ := by kernel_rfl
theorem ty26 : TT.ty 26 = some ⟨.func, 1, 8, [.nilF]⟩ := by kernel_rfl
theorem ty27 : TT.ty 27 = some ⟨.struct [(2, 0), (2, 1)], 2, 16, [.int .i64 0, .int .i64 0]⟩ := by kernel_rfl
theorem ty28 : TT.ty 28 = some ⟨.func, 1, 8, [.nilF]⟩ := by kernel_rfl
theorem ty29 : TT.ty 29 = some ⟨.func, 1, 8, [.nilF]⟩ := by kernel_rfl
theorem ty30 : TT.ty 30 = some ⟨.func, 1, 8, [.nilF]⟩ := by kernel_rfl
theorem ty31 : TT.ty 31 = some ⟨.func, 1, 8, [.nilF]⟩ := by kernel_rfl
theorem ty32 : TT.ty 32 = some ⟨.slice 5, 1, 24, [.nilS]⟩ := by kernel_rfl
theorem ty33 : TT.ty 33 = some ⟨.func, 1, 8, [.nilF]⟩ := by kernel_rfl
theorem ty34 : TT.ty 34 = some ⟨.func, 1, 8, [.nilF]⟩ := by kernel_rfl
theorem ty35 : TT.ty 35 = some ⟨.func, 1, 8, [.nilF]⟩ := by kernel_rfl
theorem ty36 : TT.ty 36 = some ⟨.int .u64, 1, 8, [.int .u64 0]⟩ := by kernel_rfl
theorem ty38 : TT.ty 38 = some ⟨.func, 1, 8, [.nilF]⟩ := by kernel_rfl
theorem ty39 : TT.ty 39 = some ⟨.func, 1, 8, [.nilF]⟩ := by kernel_rfl
theorem ty40 : TT.ty 40 = some ⟨.func, 1, 8, [.nilF]⟩ := by kernel_rfl
theorem ty41 : TT.ty 41 = some ⟨.func, 1, 8, [.nilF]⟩ := by kernel_rfl
theorem ty42 : TT.ty 42 = some ⟨.func, 1, 8, [.nilF]⟩ := by kernel_rfl
theorem ty44 : TT.ty 44 = some ⟨.func, 1, 8, [.nilF]⟩ := by kernel_rfl
theorem ty46 : TT.ty 46 = some ⟨.func, 1, 8, [.nilF]⟩ := by kernel_rfl
theorem ty47 : TT.ty 47 = some ⟨.struct [(2, 0), (24, 1), (2, 2)], 3, 40, [.int .i64 0, .nilS, .int .i64 0]⟩ := by kernel_rfl
theorem ty48 : TT.ty 48 = some ⟨.struct [(2, 0), (24, 1), (2, 2)], 3, 40, [.int .i64 0, .nilS, .int .i64 0]⟩ := by kernel_rfl
theorem ty49 : TT.ty 49 = some ⟨.func, 1, 8, [.nilF]⟩ := by kernel_rfl
theorem ty50 : TT.ty 50 = some ⟨.func, 1, 8, [.nilF]⟩ := by kernel_rfl
theorem ty51 : TT.ty 51 = some ⟨.struct [(2, 0), (24, 1), (2, 2)], 3, 40, [.int .i64 0, .nilS, .int .i64 0]⟩ := by kernel_rfl
theorem ty52 : TT.ty 52 = some ⟨.func, 1, 8, [.nilF]⟩ := by kernel_rfl
theorem ty53 : TT.ty 53 = some ⟨.func, 1, 8, [.nilF]⟩ := by kernel_rfl
theorem ty54 : TT.ty 54 = some ⟨.func, 1, 8, [.nilF]⟩ := by kernel_rfl
theorem ty55 : TT.ty 55 = some ⟨.func, 1, 8, [.nilF]⟩ := by kernel_rfl
theorem ty56 : TT.ty 56 = some ⟨.func, 1, 8, [.nilF]⟩ := by kernel_rfl
theorem ty57 : TT.ty 57 = some ⟨.func, 1, 8, [.nilF]⟩ := by kernel_rfl
theorem ty59 : TT.ty 59 = some ⟨.func, 1, 8, [.nilF]⟩ := by kernel_rfl
theorem ty61 : TT.ty 61 = some ⟨.func, 1, 8, [.nilF]⟩ := by kernel_rfl
theorem ty62 : TT.ty 62 = some ⟨.func, 1, 8, [.nilF]⟩ := by kernel_rfl
theorem ty63 : TT.ty 63 = some ⟨.func, 1, 8, [.nilF]⟩ := by kernel_rfl
theorem ty64 : TT.ty 64 = some ⟨.func, 1, 8, [.nilF]⟩ := by kernel_rfl
theorem ty65 : TT.ty 65 = some ⟨.slice 27, 1, 24, [.nilS]⟩ := by kernel_rfl
theorem ty66 : TT.ty 66 = some ⟨.func, 1, 8, [.nilF]⟩ := by kernel_rfl
theorem ty67 : TT.ty 67 = some ⟨.slice 9, 1, 24, [.nilS]⟩ := by kernel_rfl
theorem ty68 : TT.ty 68 = some ⟨.func, 1, 8, [.nilF]⟩ := by kernel_rfl
theorem ty69 : TT.ty 69 = some ⟨.func, 1, 8, [.nilF]⟩ := by kernel_rfl
theorem ty70 : TT.ty 70 = some ⟨.func, 1, 8, [.nilF]⟩ := by kernel_rfl
theorem ty71 : TT.ty 71 = some ⟨.func, 1, 8, [.nilF]⟩ := by kernel_rfl
theorem ty72 : TT.ty 72 = some ⟨.func, 1, 8, [.nilF]⟩ := by kernel_rfl
theorem ty73 : TT.ty 73 = some ⟨.func, 1, 8, [.nilF]⟩ := by kernel_rfl
theorem ty74 : TT.ty 74 = some ⟨.func, 1, 8, [.nilF]⟩ := by kernel_rfl
theorem ty75 : TT.ty 75 = some ⟨.func, 1, 8, [.nilF]⟩ := by kernel_rfl
theorem ty76 : TT.ty 76 = some ⟨.func, 1, 8, [.nilF]⟩ := by kernel_rfl
theorem ty77 : TT.ty 77 = some ⟨.struct [(2, 0), (2, 1)], 2, 16, [.int .i64 0, .int .i64 0]⟩ := by kernel_rfl
theorem ty78 : TT.ty 78 = some ⟨.struct [(2, 0), (2, 1)], 2, 16, [.int .i64 0, .int .i64 0]⟩ := by kernel_rfl
theorem ty80 : TT.ty 80 = some ⟨.func, 1, 8, [.nilF]⟩ := by kernel_rfl
theorem ty81 : TT.ty 81 = some ⟨.slice 24, 1, 24, [.nilS]⟩ := by kernel_rfl
theorem ty83 : TT.ty 83 = some ⟨.func, 1, 8, [.nilF]⟩ := by kernel_rfl
theorem ty84 : TT.ty 84 = some ⟨.func, 1, 8, [.nilF]⟩ := by kernel_rfl
theorem ty86 : TT.ty 86 = some ⟨.func, 1, 8, [.nilF]⟩ := by kernel_rfl
theorem ty87 : TT.ty 87 = some ⟨.func, 1, 8, [.nilF]⟩ := by kernel_rfl
theorem ty88 : TT.ty 88 = some ⟨.func, 1, 8, [.nilF]⟩ := by kernel_rfl
theorem ty89 : TT.ty 89 = some ⟨.pointer, 1, 8, [.nilP]⟩ := by kernel_rfl
theorem ty90 : TT.ty 90 = some ⟨.func, 1, 8, [.nilF]⟩ := by kernel_rfl
theorem ty92 : TT.ty 92 = some ⟨.func, 1, 8, [.nilF]⟩ := by kernel_rfl
theorem ty93 : TT.ty 93 = some ⟨.func, 1, 8, [.nilF]⟩ := by kernel_rfl
theorem ty95 : TT.ty 95 = some ⟨.func, 1, 8, [.nilF]⟩ := by kernel_rfl
theorem ty96 : TT.ty 96 = some ⟨.pointer, 1, 8, [.nilP]⟩ := by kernel_rfl
theorem ty97 : TT.ty 97 = some ⟨.func, 1, 8, [.nilF]⟩ := by kernel_rfl
theorem ty98 : TT.ty 98 = some ⟨.func, 1, 8, [.nilF]⟩ := by kernel_rfl
theorem ty99 : TT.ty 99 = some ⟨.func, 1, 8, [.nilF]⟩ := by kernel_rfl
theorem ty100 : TT.ty 100 = some ⟨.func, 1, 8, [.nilF]⟩ := by kernel_rfl
theorem ty102 : TT.ty 102 = some ⟨.func, 1, 8, [.nilF]⟩ := by kernel_rfl
theorem ty103 : TT.ty 103 = some ⟨.func, 1, 8, [.nilF]⟩ := by kernel_rfl
theorem ty104 : TT.ty 104 = some ⟨.pointer, 1, 8, [.nilP]⟩ := by kernel_rfl
theorem ty105 : TT.ty 105 = some ⟨.func, 1, 8, [.nilF]⟩ := by kernel_rfl
theorem ty106 : TT.ty 106 = some ⟨.func, 1, 8, [.nilF]⟩ := by kernel_rfl
theorem ty107 : TT.ty 107 = some ⟨.func, 1, 8, [.nilF]⟩ := by kernel_rfl
theorem ty108 : TT.ty 108 = some ⟨.func, 1, 8, [.nilF]⟩ := by kernel_rfl
theorem ty109 : TT.ty 109 = some ⟨.func, 1, 8, [.nilF]⟩ := by kernel_rfl
theorem ty110 : TT.ty 110 = some ⟨.func, 1, 8, [.nilF]⟩ := by kernel_rfl
theorem ty111 : TT.ty 111 = some ⟨.func, 1, 8, [.nilF]⟩ := by kernel_rfl
theorem ty112 : TT.ty 112 = some ⟨.func, 1, 8, [.nilF]⟩ := by kernel_rfl
theorem ty113 : TT.ty 113 = some ⟨.func, 1, 8, [.nilF]⟩ := by kernel_rfl
theorem ty114 : TT.ty 114 = some ⟨.func, 1, 8, [.nilF]⟩ := by kernel_rfl
theorem ty115 : TT.ty 115 = some ⟨.pointer, 1, 8, [.nilP]⟩ := by kernel_rfl
theorem ty116 : TT.ty 116 = some ⟨.struct [(115, 0), (32, 1)], 2, 32, [.nilP, .nilS]⟩ := by kernel_rfl
theorem ty117 : TT.ty 117 = some ⟨.struct [(115, 0), (32, 1)], 2, 32, [.nilP, .nilS]⟩ := by kernel_rfl
theorem ty118 : TT.ty 118 = some ⟨.iface, 1, 16, [.nilI]⟩ := by kernel_rfl
theorem ty119 : TT.ty 119 = some ⟨.iface, 1, 16, [.nilI]⟩ := by kernel_rfl
theorem ty120 : TT.ty 120 = some ⟨.func, 1, 8, [.nilF]⟩ := by kernel_rfl
theorem ty121 : TT.ty 121 = some ⟨.func, 1, 8, [.nilF]⟩ := by kernel_rfl
theorem ty122 : TT.ty 122 = some ⟨.func, 1, 8, [.nilF]⟩ := by kernel_rfl
theorem ty123 : TT.ty 123 = some ⟨.func, 1, 8, [.nilF]⟩ := by kernel_rfl
theorem ty124 : TT.ty 124 = some ⟨.func, 1, 8, [.nilF]⟩ := by kernel_rfl
theorem ty125 : TT.ty 125 = some ⟨.func, 1, 8, [.nilF]⟩ := by kernel_rfl
theorem ty126 : TT.ty 126 = some ⟨.func, 1, 8, [.nilF]⟩ := by kernel_rfl
theorem ty127 : TT.ty 127 = some ⟨.func, 1, 8, [.nilF]⟩ := by kernel_rfl
theorem ty128 : TT.ty 128 = some ⟨.slice 185, 1, 24, [.nilS]⟩ := by kernel_rfl
theorem ty129 : TT.ty 129 = some ⟨.slice 185, 1, 24, [.nilS]⟩ := by kernel_rfl
theorem ty130 : TT.ty 130 = some ⟨.struct [(4, 0), (129, 1), (129, 2)], 3, 56, [.bool false, .nilS, .nilS]⟩ := by kernel_rfl
theorem ty131 : TT.ty 131 = some ⟨.struct [(4, 0), (129, 1), (129, 2)], 3, 56, [.bool false, .nilS, .nilS]⟩ := by kernel_rfl
theorem ty132 : TT.ty 132 = some ⟨.func, 1, 8, [.nilF]⟩ := by kernel_rfl
theorem ty133 : TT.ty 133 = some ⟨.func, 1, 8, [.nilF]⟩ := by kernel_rfl
theorem ty134 : TT.ty 134 = some ⟨.func, 1, 8, [.nilF]⟩ := by kernel_rfl
theorem ty135 : TT.ty 135 = some ⟨.func, 1, 8, [.nilF]⟩ := by kernel_rfl
theorem ty136 : TT.ty 136 = some ⟨.func, 1, 8, [.nilF]⟩ := by kernel_rfl
theorem ty137 : TT.ty 137 = some ⟨.func, 1, 8, [.nilF]⟩ := by kernel_rfl
theorem ty138 : TT.ty 138 = some ⟨.func, 1, 8, [.nilF]⟩ := by kernel_rfl
theorem ty139 : TT.ty 139 = some ⟨.func, 1, 8, [.nilF]⟩ := by kernel_rfl
theorem ty140 : TT.ty 140 = some ⟨.func, 1, 8, [.nilF]⟩ := by kernel_rfl
theorem ty141 : TT.ty 141 = some ⟨.int .u64, 1, 8, [.int .u64 0]⟩ := by kernel_rfl
theorem ty142 : TT.ty 142 = some ⟨.struct [(32, 0), (3, 1), (141, 2)], 3, 40, [.nilS, .int .i64 0, .int .u64 0]⟩ := by kernel_rfl
theorem ty143 : TT.ty 143 = some ⟨.struct [(32, 0), (3, 1), (141, 2)], 3, 40, [.nilS, .int .i64 0, .int .u64 0]⟩ := by kernel_rfl
theorem ty144 : TT.ty 144 = some ⟨.func, 1, 8, [.nilF]⟩ := by kernel_rfl
theorem ty145 : TT.ty 145 = some ⟨.func, 1, 8, [.nilF]⟩ := by kernel_rfl
theorem ty146 : TT.ty 146 = some ⟨.func, 1, 8, [.nilF]⟩ := by kernel_rfl
theorem ty147 : TT.ty 147 = some ⟨.func, 1, 8, [.nilF]⟩ := by kernel_rfl
theorem ty148 : TT.ty 148 = some ⟨.func, 1, 8, [.nilF]⟩ := by kernel_rfl
theorem ty149 : TT.ty 149 = some ⟨.func, 1, 8, [.nilF]⟩ := by kernel_rfl
theorem ty150 : TT.ty 150 = some ⟨.func, 1, 8, [.nilF]⟩ := by kernel_rfl
theorem ty151 : TT.ty 151 = some ⟨.func, 1, 8, [.nilF]⟩ := by kernel_rfl
theorem ty152 : TT.ty 152 = some ⟨.func, 1, 8, [.nilF]⟩ := by kernel_rfl
theorem ty153 : TT.ty 153 = some ⟨.func, 1, 8, [.nilF]⟩ := by kernel_rfl
theorem ty154 : TT.ty 154 = some ⟨.func, 1, 8, [.nilF]⟩ := by kernel_rfl
theorem ty155 : TT.ty 155 = some ⟨.func, 1, 8, [.nilF]⟩ := by kernel_rfl
theorem ty156 : TT.ty 156 = some ⟨.func, 1, 8, [.nilF]⟩ := by kernel_rfl
theorem ty157 : TT.ty 157 = some ⟨.func, 1, 8, [.nilF]⟩ := by kernel_rfl
theorem ty158 : TT.ty 158 = some ⟨.pointer, 1, 8, [.nilP]⟩ := by kernel_rfl
theorem ty159 : TT.ty 159 = some ⟨.func, 1, 8, [.nilF]⟩ := by kernel_rfl
theorem ty160 : TT.ty 160 = some ⟨.func, 1, 8, [.nilF]⟩ := by kernel_rfl
theorem ty161 : TT.ty 161 = some ⟨.func, 1, 8, [.nilF]⟩ := by kernel_rfl
theorem ty163 : TT.ty 163 = some ⟨.func, 1, 8, [.nilF]⟩ := by kernel_rfl
theorem ty164 : TT.ty 164 = some ⟨.func, 1, 8, [.nilF]⟩ := by kernel_rfl
theorem ty165 : TT.ty 165 = some ⟨.func, 1, 8, [.nilF]⟩ := by kernel_rfl
theorem ty166 : TT.ty 166 = some ⟨.func, 1, 8, [.nilF]⟩ := by kernel_rfl
theorem ty167 : TT.ty 167 = some ⟨.func, 1, 8, [.nilF]⟩ := by kernel_rfl
theorem ty168 : TT.ty 168 = some ⟨.func, 1, 8, [.nilF]⟩ := by kernel_rfl
theorem ty169 : TT.ty 169 = some ⟨.func, 1, 8, [.nilF]⟩ := by kernel_rfl
theorem ty170 : TT.ty 170 = some ⟨.func, 1, 8, [.nilF]⟩ := by kernel_rfl
theorem ty171 : TT.ty 171 = some ⟨.func, 1, 8, [.nilF]⟩ := by kernel_rfl
theorem ty172 : TT.ty 172 = some ⟨.array 256 4, 256, 256, (List.replicate 256 (.bool false))⟩ := by kernel_rfl
theorem ty173 : TT.ty 173 = some ⟨.array 256 4, 256, 256, (List.replicate 256 (.bool false))⟩ := by kernel_rfl
theorem ty175 : TT.ty 175 = some ⟨.func, 1, 8, [.nilF]⟩ := by kernel_rfl
theorem ty176 : TT.ty 176 = some ⟨.func, 1, 8, [.nilF]⟩ := by kernel_rfl
theorem ty177 : TT.ty 177 = some ⟨.pointer, 1, 8, [.nilP]⟩ := by kernel_rfl
theorem ty178 : TT.ty 178 = some ⟨.pointer, 1, 8, [.nilP]⟩ := by kernel_rfl
theorem ty179 : TT.ty 179 = some ⟨.struct [(3, 0), (24, 1)], 2, 32, [.int .i64 0, .nilS]⟩ := by kernel_rfl
theorem ty180 : TT.ty 180 = some ⟨.struct [(3, 0), (24, 1)], 2, 32, [.int .i64 0, .nilS]⟩ := by kernel_rfl
theorem ty181 : TT.ty 181 = some ⟨.func, 1, 8, [.nilF]⟩ := by kernel_rfl
theorem ty182 : TT.ty 182 = some ⟨.other, 1, 8, [.nilP]⟩ := by kernel_rfl
theorem ty183 : TT.ty 183 = some ⟨.func, 1, 8, [.nilF]⟩ := by kernel_rfl
theorem ty184 : TT.ty 184 = some ⟨.func, 1, 8, [.nilF]⟩ := by kernel_rfl
theorem ty185 : TT.ty 185 = some ⟨.int .u32, 1, 4, [.int .u32 0]⟩ := by kernel_rfl
theorem ty186 : TT.ty 186 = some ⟨.func, 1, 8, [.nilF]⟩ := by kernel_rfl
theorem ty188 : TT.ty 188 = some ⟨.func, 1, 8, [.nilF]⟩ := by kernel_rfl
theorem ty189 : TT.ty 189 = some ⟨.func, 1, 8, [.nilF]⟩ := by kernel_rfl
theorem ty191 : TT.ty 191 = some ⟨.func, 1, 8, [.nilF]⟩ := by kernel_rfl
theorem ty192 : TT.ty 192 = some ⟨.func, 1, 8, [.nilF]⟩ := by kernel_rfl
theorem ty193 : TT.ty 193 = some ⟨.func, 1, 8, [.nilF]⟩ := by kernel_rfl
theorem ty194 : TT.ty 194 = some ⟨.func, 1, 8, [.nilF]⟩ := by kernel_rfl
theorem ty195 : TT.ty 195 = some ⟨.func, 1, 8, [.nilF]⟩ := by kernel_rfl
theorem ty197 : TT.ty 197 = some ⟨.func, 1, 8, [.nilF]⟩ := by kernel_rfl
theorem ty198 : TT.ty 198 = some ⟨.func, 1, 8, [.nilF]⟩ := by kernel_rfl
theorem ty200 : TT.ty 200 = some ⟨.func, 1, 8, [.nilF]⟩ := by kernel_rfl
theorem ty201 : TT.ty 201 = some ⟨.array 256 5, 256, 256, (List.replicate 256 (.int .u8 0))⟩ := by kernel_rfl
theorem ty202 : TT.ty 202 = some ⟨.struct [(5, 0), (5, 1)], 2, 2, [.int .u8 0, .int .u8 0]⟩ := by kernel_rfl
theorem ty203 : TT.ty 203 = some ⟨.struct [(5, 0), (5, 1)], 2, 2, [.int .u8 0, .int .u8 0]⟩ := by kernel_rfl
theorem ty204 : TT.ty 204 = some ⟨.array 16 203, 32, 32, [.int .u8 0, .int .u8 0, .int .u8 0, .int .u8 0, .int .u8 0, .int .u8 0, .int .u8 0, .int .u8 0, .int .u8 0, .int .u8 0, .int .u8 0, .int .u8 0, .int .u8 0, .int .u8 0, .int .u8 0, .int .u8 0, .int .u8 0, .int .u8 0, .int .u8 0, .int .u8 0, .int .u8 0, .int .u8 0, .int .u8 0, .int .u8 0, .int .u8 0, .int .u8 0, .int .u8 0, .int .u8 0, .int .u8 0, .int .u8 0, .int .u8 0, .int .u8 0]⟩ := by kernel_rfl
theorem ty205 : TT.ty 205 = some ⟨.func, 1, 8, [.nilF]⟩ := by kernel_rfl
theorem ty206 : TT.ty 206 = some ⟨.pointer, 1, 8, [.nilP]⟩ := by kernel_rfl
theorem ty209 : TT.ty 209 = some ⟨.array 0 16, 0, 0, []⟩ := by kernel_rfl
theorem ty212 : TT.ty 212 = some ⟨.func, 1, 8, [.nilF]⟩ := by kernel_rfl
theorem ty213 : TT.ty 213 = some ⟨.int .u8, 1, 1, [.int .u8 0]⟩ := by kernel_rfl
theorem ty214 : TT.ty 214 = some ⟨.int .u8, 1, 1, [.int .u8 0]⟩ := by kernel_rfl
theorem ty215 : TT.ty 215 = some ⟨.func, 1, 8, [.nilF]⟩ := by kernel_rfl
theorem ty216 : TT.ty 216 = some ⟨.int .i32, 1, 4, [.int .i32 0]⟩ := by kernel_rfl
theorem ty217 : TT.ty 217 = some ⟨.int .i32, 1, 4, [.int .i32 0]⟩ := by kernel_rfl
theorem ty220 : TT.ty 220 = some ⟨.func, 1, 8, [.nilF]⟩ := by kernel_rfl
theorem ty221 : TT.ty 221 = some ⟨.struct [(9, 0)], 1, 16, [.str []]⟩ := by kernel_rfl
theorem ty222 : TT.ty 222 = some ⟨.struct [(9, 0)], 1, 16, [.str []]⟩ := by kernel_rfl
end Go.Proofs.YthkdbkjkccogfaaDoor
