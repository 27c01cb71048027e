/- Facts on the tables of this seat. Nothing is claimed here; no condition. -/
import Derived.Test.YtjecbjnckbihoaaDoorAbsY
import Derived.Test.YtjecbjnckbihoaaDoorTab
namespace Go.Proofs.YtjecbjnckbihoaaDoor
open Go Go.Abs
-- loop.example/g01121/laws.FnDiceFair
theorem fn3 : TT.fn 3 = some Tryd.f3 := by kernel_rfl
theorem md3 : (TT.an 3).mode = 1 := by kernel_rfl
theorem fi3 : FI.of Tryd.f3 (TT.an 3) = ⟨[.tmp 4], 177, [(0, [0, 1]), (1, [0, 1, 29]), (2, [4]), (3, [1, 5]), (4, [5, 6]), (5, [5, 6, 7]), (6, [5, 6, 7, 8]), (7, [5, 6, 7, 8, 9]), (8, [5, 6, 7, 8, 9, 10]), (9, [5, 6, 7, 8, 9, 10, 43]), (10, [5, 6, 7, 8, 9, 10]), (11, [5, 6, 7, 8, 9, 10, 11]), (12, [5, 6, 7, 8, 9, 10, 11, 12, 13, 14]), (13, [5, 6, 7, 8, 9, 10, 12, 13, 14, 15, 16, 17]), (14, [5, 6, 7, 8, 9, 10, 12, 14, 15, 17, 94]), (15, [4]), (16, [5, 6, 7, 8, 9, 10, 12, 15, 17, 95]), (17, [5, 6, 7, 8, 9, 10, 15, 17]), (18, [5, 6, 7, 8, 9, 10, 15, 102]), (19, [5, 6, 7, 8, 9, 10]), (20, [5, 6, 7, 8, 9, 10]), (21, [5, 6, 7, 8, 9, 18]), (22, [5, 6, 7, 8, 9, 18, 113]), (23, [5, 6, 7, 8, 9, 18]), (24, [5, 6, 7, 8, 9, 18, 133]), (25, [4]), (26, [5, 6, 9, 19]), (27, [5, 6, 9, 19, 20]), (28, [5, 6, 9, 19, 20, 138]), (29, [5, 6, 9, 19, 20]), (30, [5, 6, 9, 19, 20]), (31, [5, 9, 19, 21, 22]), (32, [9, 19, 21, 22, 23, 24]), (33, [9, 19, 22, 24, 25, 26]), (34, [4])], []⟩ := by kernel_rfl
-- loop.example/g01121/laws.r8Long
theorem fn4 : TT.fn 4 = some Tryd.f4 := by kernel_rfl
theorem md4 : (TT.an 4).mode = 1 := by kernel_rfl
theorem fi4 : FI.of Tryd.f4 (TT.an 4) = ⟨[.tmp 4], 13, [(0, [0, 1]), (1, [4])], []⟩ := by kernel_rfl
-- loop.example/g01121/laws.r8At
theorem fn5 : TT.fn 5 = some Tryd.f5 := by kernel_rfl
theorem md5 : (TT.an 5).mode = 1 := by kernel_rfl
theorem fi5 : FI.of Tryd.f5 (TT.an 5) = ⟨[.tmp 6], 22, [(0, [0, 1, 2]), (1, [0, 1, 2, 14]), (2, [6]), (3, [6])], []⟩ := by kernel_rfl
-- loop.example/g01121/laws.r8Text
theorem fn6 : TT.fn 6 = some Tryd.f6 := by kernel_rfl
theorem md6 : (TT.an 6).mode = 1 := by kernel_rfl
theorem fi6 : FI.of Tryd.f6 (TT.an 6) = ⟨[.tmp 4], 26, [(0, [0, 1]), (1, [0, 1, 5]), (2, [0, 5, 6]), (3, [0, 5, 6, 11]), (4, [0, 5, 6]), (5, [0, 5, 6]), (6, [4])], []⟩ := by kernel_rfl
-- loop.example/g01121/impl.RollReject
theorem fn7 : TT.fn 7 = some Tryd.f7 := by kernel_rfl
theorem md7 : (TT.an 7).mode = 1 := by kernel_rfl
theorem fi7 : FI.of Tryd.f7 (TT.an 7) = ⟨[.tmp 4, .tmp 5, .tmp 6], 40, [(0, [0, 1]), (1, [0, 1, 17]), (2, [4, 5, 6]), (3, [0, 1, 7]), (4, [0, 1, 7, 8]), (5, [0, 1, 7, 8, 24]), (6, [0, 1, 7, 8]), (7, [0, 1, 7, 8, 9]), (8, [0, 1, 7, 8, 9, 37]), (9, [4, 5, 6]), (10, [4, 5, 6])], []⟩ := by kernel_rfl
-- loop.example/g01121/impl.RollDice
theorem fn8 : TT.fn 8 = some Tryd.f8 := by kernel_rfl
theorem md8 : (TT.an 8).mode = 1 := by kernel_rfl
theorem fi8 : FI.of Tryd.f8 (TT.an 8) = ⟨[.tmp 4, .tmp 5, .tmp 6], 21, [(0, [0, 1]), (1, [0, 1, 14]), (2, [4, 5, 6]), (3, [4, 5, 6])], []⟩ := by kernel_rfl
-- loop.example/g01121/impl.RejectCost
theorem fn9 : TT.fn 9 = some Tryd.f9 := by kernel_rfl
theorem md9 : (TT.an 9).mode = 1 := by kernel_rfl
theorem fi9 : FI.of Tryd.f9 (TT.an 9) = ⟨[.cell 2 31, .tmp 3], 19, [(0, [0, 2]), (1, [0, 2, 7]), (2, [2, 3]), (3, [0, 2, 4]), (4, [2, 3])], []⟩ := by kernel_rfl
-- loop.example/g01121/impl.DiceCost
theorem fn10 : TT.fn 10 = some Tryd.f10 := by kernel_rfl
theorem md10 : (TT.an 10).mode = 1 := by kernel_rfl
theorem fi10 : FI.of Tryd.f10 (TT.an 10) = ⟨[.cell 2 31, .tmp 3], 64, [(0, [1, 2]), (1, [1, 2, 13]), (2, [2, 3]), (3, [1, 2, 4, 5]), (4, [1, 2, 4, 5, 6, 7, 8]), (5, [1, 2, 4, 5, 6, 7, 8, 29, 30]), (6, [1, 2, 4, 5, 6, 7, 8, 29, 30, 31]), (7, [1, 2, 4, 5, 6, 7, 8, 9, 29, 30]), (8, [1, 2, 4, 5, 6, 7, 8, 9, 10, 29, 30]), (9, [1, 2, 4, 5, 6, 7, 8, 10, 29, 30, 39]), (10, [1, 2, 4, 5, 6, 7, 8, 29, 30]), (11, [1, 2, 4, 5, 6, 7, 8, 29, 30]), (12, [1, 2, 4, 5, 6, 7, 8, 29, 30]), (13, [1, 2, 4, 5, 6, 7, 8, 29, 30]), (14, [2, 3])], [(4, [(1000000, 0), (1000001, 6), (1000001, 7), (1000001, 8), (1000001, 3), (1000001, 2), (1000002, 3), (1000002, 2)]), (14, [(0, 7), (1, 7), (0, 8)])]⟩ := by kernel_rfl
-- loop.example/g01121/impl.CompareFractions
theorem fn11 : TT.fn 11 = some Tryd.f11 := by kernel_rfl
theorem md11 : (TT.an 11).mode = 1 := by kernel_rfl
theorem fi11 : FI.of Tryd.f11 (TT.an 11) = ⟨[.tmp 4, .tmp 5], 16, [(0, [2, 3]), (1, [2, 3, 10]), (2, [4, 5]), (3, [4, 5])], [(3, [(2, 1)])]⟩ := by kernel_rfl
-- loop.example/g01121/impl.isDrawn
theorem fn12 : TT.fn 12 = some Tryd.f12 := by kernel_rfl
theorem md12 : (TT.an 12).mode = 1 := by kernel_rfl
theorem fi12 : FI.of Tryd.f12 (TT.an 12) = ⟨[.tmp 2], 5, [(0, [0]), (1, [2])], []⟩ := by kernel_rfl
-- loop.example/g01121/impl.IsBits
theorem fn13 : TT.fn 13 = some Tryd.f13 := by kernel_rfl
theorem md13 : (TT.an 13).mode = 1 := by kernel_rfl
theorem fi13 : FI.of Tryd.f13 (TT.an 13) = ⟨[.tmp 2], 11, [(0, [0]), (1, [2])], []⟩ := by kernel_rfl
-- loop.example/g01121/impl.bitsFor
theorem fn14 : TT.fn 14 = some Tryd.f14 := by kernel_rfl
theorem md14 : (TT.an 14).mode = 1 := by kernel_rfl
theorem fi14 : FI.of Tryd.f14 (TT.an 14) = ⟨[.tmp 2], 7, [(0, [0]), (1, [2])], []⟩ := by kernel_rfl
-- loop.example/g01121/impl.numberOf
theorem fn15 : TT.fn 15 = some Tryd.f15 := by kernel_rfl
theorem md15 : (TT.an 15).mode = 1 := by kernel_rfl
theorem fi15 : FI.of Tryd.f15 (TT.an 15) = ⟨[.tmp 2], 20, [(0, [0]), (1, [0, 3]), (2, [0, 3, 6, 7]), (3, [0, 3, 6, 7, 8]), (4, [0, 3, 4, 6, 7]), (5, [0, 3, 6, 7]), (6, [0, 3, 6, 7]), (7, [2])], []⟩ := by kernel_rfl
-- loop.example/g01121/impl.rollDice
theorem fn16 : TT.fn 16 = some Tryd.f16 := by kernel_rfl
theorem md16 : (TT.an 16).mode = 1 := by kernel_rfl
theorem fi16 : FI.of Tryd.f16 (TT.an 16) = ⟨[.tmp 4, .tmp 5, .tmp 6], 40, [(0, [0, 1]), (1, [0, 1, 7, 8, 9]), (2, [0, 1, 7, 8, 9, 12]), (3, [0, 1, 7, 8, 9, 16]), (4, [4, 5, 6]), (5, [0, 1, 7, 8, 9]), (6, [0, 1, 7, 8, 9]), (7, [0, 1, 7, 8, 9, 31]), (8, [4, 5, 6]), (9, [0, 1, 7, 8, 9])], []⟩ := by kernel_rfl
-- loop.example/g01121/impl.quotient
theorem fn17 : TT.fn 17 = some Tryd.f17 := by kernel_rfl
theorem md17 : (TT.an 17).mode = 1 := by kernel_rfl
theorem fi17 : FI.of Tryd.f17 (TT.an 17) = ⟨[.cell 4 43], 14, [(0, [0, 1, 4]), (1, [4])], []⟩ := by kernel_rfl
-- (loop.example/g01121/impl.ratio).fraction
theorem fn18 : TT.fn 18 = some Tryd.f18 := by kernel_rfl
theorem md18 : (TT.an 18).mode = 1 := by kernel_rfl
theorem fi18 : FI.of Tryd.f18 (TT.an 18) = ⟨[.cell 2 31, .tmp 3], 34, [(0, [1, 2]), (1, [1, 2, 4, 5]), (2, [1, 2, 4, 5, 6, 7]), (3, [1, 2, 4, 6, 25]), (4, [2, 3]), (5, [2, 4, 6, 28]), (6, [2, 4, 6]), (7, [2, 3])], []⟩ := by kernel_rfl
-- loop.example/g01121/impl.inRange
theorem fn19 : TT.fn 19 = some Tryd.f19 := by kernel_rfl
theorem md19 : (TT.an 19).mode = 1 := by kernel_rfl
theorem fi19 : FI.of Tryd.f19 (TT.an 19) = ⟨[.tmp 6], 15, [(0, [0, 1, 2]), (1, [6])], []⟩ := by kernel_rfl
-- loop.example/g01121/impl.cycleFrom
theorem fn20 : TT.fn 20 = some Tryd.f20 := by kernel_rfl
theorem md20 : (TT.an 20).mode = 1 := by kernel_rfl
theorem fi20 : FI.of Tryd.f20 (TT.an 20) = ⟨[.tmp 6, .tmp 7], 33, [(0, [0, 1, 2]), (1, [1, 2, 8]), (2, [1, 2, 8, 9]), (3, [1, 2, 8, 9]), (4, [1, 2, 8, 9, 10]), (5, [1, 2, 8, 9, 10, 20]), (6, [6, 7]), (7, [1, 2, 8, 9]), (8, [1, 2, 8, 9])], []⟩ := by kernel_rfl
-- loop.example/g01121/impl.DiceCost$1
theorem fn21 : TT.fn 21 = some Tryd.f21 := by kernel_rfl
theorem md21 : (TT.an 21).mode = 1 := by kernel_rfl
theorem fi21 : FI.of Tryd.f21 (TT.an 21) = ⟨[.tmp 3], 8, [(0, [0, 1]), (1, [3])], []⟩ := by kernel_rfl
-- loop.example/g01121/impl.whole
theorem fn22 : TT.fn 22 = some Tryd.f22 := by kernel_rfl
theorem md22 : (TT.an 22).mode = 1 := by kernel_rfl
theorem fi22 : FI.of Tryd.f22 (TT.an 22) = ⟨[.cell 2 43], 6, [(0, [0, 2]), (1, [2])], []⟩ := by kernel_rfl
-- (loop.example/g01121/impl.ratio).plus
theorem fn23 : TT.fn 23 = some Tryd.f23 := by kernel_rfl
theorem md23 : (TT.an 23).mode = 1 := by kernel_rfl
theorem fi23 : FI.of Tryd.f23 (TT.an 23) = ⟨[.cell 4 43], 54, [(0, [2, 3, 4]), (1, [2, 3, 4, 5, 6]), (2, [2, 3, 4, 5, 6, 7]), (3, [4, 7]), (4, [3, 4, 5, 6, 7, 33]), (5, [4, 7]), (6, [3, 4, 5, 6, 7, 43]), (7, [4, 7]), (8, [4])], [(1, [(6, 4), (8, 4)]), (2, [(1000000, 0), (1000001, 9), (1, 6)]), (3, [(4, 2), (4, 6)])]⟩ := by kernel_rfl
-- (loop.example/g01121/impl.ratio).times
theorem fn24 : TT.fn 24 = some Tryd.f24 := by kernel_rfl
theorem md24 : (TT.an 24).mode = 1 := by kernel_rfl
theorem fi24 : FI.of Tryd.f24 (TT.an 24) = ⟨[.cell 4 43], 22, [(0, [2, 3, 4]), (1, [4])], [(1, [(1, 9), (3, 9), (11, 9), (13, 9), (1, 14), (3, 14)])]⟩ := by kernel_rfl
-- loop.example/g01121/impl.areFractions
theorem fn25 : TT.fn 25 = some Tryd.f25 := by kernel_rfl
theorem md25 : (TT.an 25).mode = 1 := by kernel_rfl
theorem fi25 : FI.of Tryd.f25 (TT.an 25) = ⟨[.tmp 2], 6, [(0, [0]), (1, [2])], []⟩ := by kernel_rfl
-- loop.example/g01121/impl.ratioOf
theorem fn26 : TT.fn 26 = some Tryd.f26 := by kernel_rfl
theorem md26 : (TT.an 26).mode = 1 := by kernel_rfl
theorem fi26 : FI.of Tryd.f26 (TT.an 26) = ⟨[.cell 2 43], 14, [(0, [1, 2]), (1, [2])], [(1, [(1, 5), (1, 6), (8, 5), (8, 6), (1, 9)])]⟩ := by kernel_rfl
-- (loop.example/g01121/impl.ratio).compare
theorem fn27 : TT.fn 27 = some Tryd.f27 := by kernel_rfl
theorem md27 : (TT.an 27).mode = 1 := by kernel_rfl
theorem fi27 : FI.of Tryd.f27 (TT.an 27) = ⟨[.tmp 4], 15, [(0, [2, 3]), (1, [5]), (2, [5, 9]), (3, [4]), (4, [12]), (5, [4]), (6, [4])], []⟩ := by kernel_rfl
-- strings.Trim
theorem fn28 : TT.fn 28 = some Tryd.f28 := by kernel_rfl
theorem md28 : (TT.an 28).mode = 1 := by kernel_rfl
theorem fi28 : FI.of Tryd.f28 (TT.an 28) = ⟨[.tmp 4], 43, [(0, [0, 1]), (1, [0, 1, 12]), (2, [4]), (3, [0, 1, 21]), (4, [4]), (5, [0, 1, 5, 6]), (6, [0, 1, 5, 34]), (7, [4]), (8, [4])], []⟩ := by kernel_rfl
-- loop.example/g01121/impl.degree
theorem fn29 : TT.fn 29 = some Tryd.f29 := by kernel_rfl
theorem md29 : (TT.an 29).mode = 1 := by kernel_rfl
theorem fi29 : FI.of Tryd.f29 (TT.an 29) = ⟨[.tmp 2], 7, [(0, [0]), (1, [2])], []⟩ := by kernel_rfl
-- loop.example/g01121/impl.naturalOf
theorem fn30 : TT.fn 30 = some Tryd.f30 := by kernel_rfl
theorem md30 : (TT.an 30).mode = 1 := by kernel_rfl
theorem fi30 : FI.of Tryd.f30 (TT.an 30) = ⟨[.tmp 2], 10, [(0, [0]), (1, [2])], []⟩ := by kernel_rfl
-- loop.example/g01121/impl.size
theorem fn31 : TT.fn 31 = some Tryd.f31 := by kernel_rfl
theorem md31 : (TT.an 31).mode = 1 := by kernel_rfl
theorem fi31 : FI.of Tryd.f31 (TT.an 31) = ⟨[.tmp 2], 7, [(0, [0]), (1, [2])], []⟩ := by kernel_rfl
-- (loop.example/g01121/impl.ratio).lowest
theorem fn32 : TT.fn 32 = some Tryd.f32 := by kernel_rfl
theorem md32 : (TT.an 32).mode = 1 := by kernel_rfl
theorem fi32 : FI.of Tryd.f32 (TT.an 32) = ⟨[.cell 2 43], 31, [(0, [1, 2]), (1, [1, 2, 7]), (2, [2]), (3, [1, 2, 3]), (4, [1, 2, 3]), (5, [1, 2]), (6, [2])], []⟩ := by kernel_rfl
-- (loop.example/g01121/impl.natural).small
theorem fn33 : TT.fn 33 = some Tryd.f33 := by kernel_rfl
theorem md33 : (TT.an 33).mode = 1 := by kernel_rfl
theorem fi33 : FI.of Tryd.f33 (TT.an 33) = ⟨[.tmp 2, .tmp 3], 30, [(0, [0]), (1, [0, 9]), (2, [2, 3]), (3, [0, 4]), (4, [4, 10, 11, 12]), (5, [4, 10, 11, 12, 13]), (6, [4, 5, 6, 10, 11, 12]), (7, [4, 10, 11, 12]), (8, [4, 10, 11, 12]), (9, [2, 3])], []⟩ := by kernel_rfl
-- (loop.example/g01121/impl.natural).times
theorem fn34 : TT.fn 34 = some Tryd.f34 := by kernel_rfl
theorem md34 : (TT.an 34).mode = 1 := by kernel_rfl
theorem fi34 : FI.of Tryd.f34 (TT.an 34) = ⟨[.tmp 4], 67, [(0, [0, 1]), (1, [0, 1, 5]), (2, [1, 5, 17, 18, 19]), (3, [1, 5, 17, 18, 19, 20]), (4, [1, 5, 6, 7, 17, 18, 19]), (5, [1, 5, 6, 7, 8, 17, 18, 19]), (6, [1, 5, 6, 7, 8, 17, 18, 19, 24, 25, 26]), (7, [1, 5, 6, 7, 8, 17, 18, 19, 24, 25, 26, 27]), (8, [1, 5, 6, 7, 8, 9, 10, 17, 18, 19, 24, 25, 26]), (9, [1, 5, 6, 7, 8, 9, 17, 18, 19, 24, 25, 26]), (10, [1, 5, 6, 7, 8, 17, 18, 19, 24, 25, 26]), (11, [1, 5, 6, 7, 8, 17, 18, 19, 24, 25, 26]), (12, [1, 5, 6, 7, 8, 17, 18, 19, 24, 25, 26]), (13, [1, 5, 17, 18, 19]), (14, [1, 5, 17, 18, 19]), (15, [4])], []⟩ := by kernel_rfl
-- (loop.example/g01121/impl.natural).plus
theorem fn35 : TT.fn 35 = some Tryd.f35 := by kernel_rfl
theorem md35 : (TT.an 35).mode = 1 := by kernel_rfl
theorem fi35 : FI.of Tryd.f35 (TT.an 35) = ⟨[.tmp 4], 56, [(0, [0, 1]), (1, [0, 1, 12]), (2, [0, 1]), (3, [0, 1, 5, 6]), (4, [0, 1, 5, 6, 20, 21]), (5, [0, 1, 5, 6, 20, 21, 22]), (6, [0, 1, 5, 6, 7, 20, 21]), (7, [0, 1, 5, 6, 7, 20, 21, 27]), (8, [0, 1, 5, 6, 7, 20, 21]), (9, [0, 1, 5, 6, 7, 20, 21, 38]), (10, [0, 1, 5, 6, 7, 20, 21]), (11, [0, 1, 5, 6, 20, 21]), (12, [0, 1, 5, 6, 20, 21]), (13, [0, 1, 5, 6, 20, 21]), (14, [4])], []⟩ := by kernel_rfl
-- (loop.example/g01121/impl.natural).compare
theorem fn36 : TT.fn 36 = some Tryd.f36 := by kernel_rfl
theorem md36 : (TT.an 36).mode = 1 := by kernel_rfl
theorem fi36 : FI.of Tryd.f36 (TT.an 36) = ⟨[.tmp 4], 41, [(0, [0, 1]), (1, [0, 1, 10]), (2, [4]), (3, [0, 1, 5]), (4, [0, 1, 5, 20]), (5, [0, 1, 5]), (6, [0, 1, 5, 31]), (7, [40]), (8, [4]), (9, [4]), (10, [4])], []⟩ := by kernel_rfl
-- (loop.example/g01121/impl.natural).minus
theorem fn37 : TT.fn 37 = some Tryd.f37 := by kernel_rfl
theorem md37 : (TT.an 37).mode = 0 := by kernel_rfl
theorem fi37 : FI.of Tryd.f37 (TT.an 37) = ⟨[.tmp 4], 47, [(0, [0, 1]), (1, [0, 1, 5, 6]), (2, [0, 1, 5, 6, 13, 14]), (3, [0, 1, 5, 6, 13, 14, 15]), (4, [0, 1, 5, 6, 7, 13, 14]), (5, [0, 1, 5, 7, 8, 13, 14]), (6, [0, 1, 5, 7, 8, 13, 14, 27]), (7, [0, 1, 5, 7, 8, 13, 14]), (8, [0, 1, 5, 6, 7, 8, 13, 14]), (9, [0, 1, 5, 6, 7, 8, 13, 14, 36]), (10, [0, 1, 5, 7, 8, 13, 14]), (11, [0, 1, 5, 6, 7, 8, 13, 14]), (12, [0, 1, 5, 6, 13, 14]), (13, [0, 1, 5, 6, 13, 14]), (14, [4])], []⟩ := by kernel_rfl
-- slices.ContainsFunc[[]loop.example/g01121/impl.Fraction,loop.example/g01121/impl.Fraction]
theorem fn38 : TT.fn 38 = some Tryd.f38 := by kernel_rfl
theorem md38 : (TT.an 38).mode = 0 := by kernel_rfl
theorem fi38 : FI.of Tryd.f38 (TT.an 38) = ⟨[.tmp 4], 9, [(0, [0, 1]), (1, [4])], []⟩ := by kernel_rfl
-- loop.example/g01121/impl.areFractions$1
theorem fn39 : TT.fn 39 = some Tryd.f39 := by kernel_rfl
theorem md39 : (TT.an 39).mode = 1 := by kernel_rfl
theorem fi39 : FI.of Tryd.f39 (TT.an 39) = ⟨[.tmp 2], 6, [(0, [1]), (1, [2])], []⟩ := by kernel_rfl
-- loop.example/g01121/impl.ValidFraction
theorem fn40 : TT.fn 40 = some Tryd.f40 := by kernel_rfl
theorem md40 : (TT.an 40).mode = 1 := by kernel_rfl
theorem fi40 : FI.of Tryd.f40 (TT.an 40) = ⟨[.tmp 2], 20, [(0, [1]), (1, [2])], [(1, [(13, 11)])]⟩ := by kernel_rfl
-- (loop.example/g01121/impl.ratio).minus
theorem fn41 : TT.fn 41 = some Tryd.f41 := by kernel_rfl
theorem md41 : (TT.an 41).mode = 1 := by kernel_rfl
theorem fi41 : FI.of Tryd.f41 (TT.an 41) = ⟨[.cell 4 43], 9, [(0, [2, 3, 4]), (1, [4])], [(1, [(0, 2)])]⟩ := by kernel_rfl
-- (loop.example/g01121/impl.ratio).isZero
theorem fn42 : TT.fn 42 = some Tryd.f42 := by kernel_rfl
theorem md42 : (TT.an 42).mode = 1 := by kernel_rfl
theorem fi42 : FI.of Tryd.f42 (TT.an 42) = ⟨[.tmp 2], 7, [(0, [1]), (1, [2])], []⟩ := by kernel_rfl
-- strings.trimLeftByte
theorem fn43 : TT.fn 43 = some Tryd.f43 := by kernel_rfl
theorem md43 : (TT.an 43).mode = 1 := by kernel_rfl
theorem fi43 : FI.of Tryd.f43 (TT.an 43) = ⟨[.tmp 4], 17, [(0, [0, 1]), (1, [0, 1, 13]), (2, [0, 1]), (3, [4])], []⟩ := by kernel_rfl
-- strings.trimRightByte
theorem fn44 : TT.fn 44 = some Tryd.f44 := by kernel_rfl
theorem md44 : (TT.an 44).mode = 1 := by kernel_rfl
theorem fi44 : FI.of Tryd.f44 (TT.an 44) = ⟨[.tmp 4], 23, [(0, [0, 1]), (1, [0, 1, 16]), (2, [0, 1]), (3, [4])], []⟩ := by kernel_rfl
-- strings.makeASCIISet
theorem fn45 : TT.fn 45 = some Tryd.f45 := by kernel_rfl
theorem md45 : (TT.an 45).mode = 1 := by kernel_rfl
theorem fi45 : FI.of Tryd.f45 (TT.an 45) = ⟨[.cell 2 67, .tmp 3], 21, [(0, [0, 2]), (1, [0, 2, 4]), (2, [0, 2, 4, 9]), (3, [0, 2, 4]), (4, [0, 2, 4, 5]), (5, [0, 2, 4, 5, 16]), (6, [2, 3]), (7, [0, 2, 4]), (8, [2, 3])], []⟩ := by kernel_rfl
-- strings.trimLeftASCII
theorem fn46 : TT.fn 46 = some Tryd.f46 := by kernel_rfl
theorem md46 : (TT.an 46).mode = 0 := by kernel_rfl
theorem fi46 : FI.of Tryd.f46 (TT.an 46) = ⟨[.tmp 4], 16, [(0, [0, 1]), (1, [0, 1, 7]), (2, [0, 1, 12]), (3, [0, 1]), (4, [4])], []⟩ := by kernel_rfl
-- strings.trimRightASCII
theorem fn47 : TT.fn 47 = some Tryd.f47 := by kernel_rfl
theorem md47 : (TT.an 47).mode = 0 := by kernel_rfl
theorem fi47 : FI.of Tryd.f47 (TT.an 47) = ⟨[.tmp 4], 22, [(0, [0, 1]), (1, [0, 1, 7]), (2, [0, 1, 15]), (3, [0, 1]), (4, [4])], []⟩ := by kernel_rfl
-- strings.trimLeftUnicode
theorem fn48 : TT.fn 48 = some Tryd.f48 := by kernel_rfl
theorem md48 : (TT.an 48).mode = 1 := by kernel_rfl
theorem fi48 : FI.of Tryd.f48 (TT.an 48) = ⟨[.tmp 4], 23, [(0, [0, 1]), (1, [0, 1, 9]), (2, [0, 1, 5, 6]), (3, [0, 1, 6, 18]), (4, [0, 1]), (5, [4])], []⟩ := by kernel_rfl
-- strings.trimRightUnicode
theorem fn49 : TT.fn 49 = some Tryd.f49 := by kernel_rfl
theorem md49 : (TT.an 49).mode = 1 := by kernel_rfl
theorem fi49 : FI.of Tryd.f49 (TT.an 49) = ⟨[.tmp 4], 34, [(0, [0, 1]), (1, [0, 1, 9]), (2, [0, 1, 5, 6]), (3, [0, 1, 5, 6, 17]), (4, [0, 1, 5, 6]), (5, [0, 1, 6, 26]), (6, [0, 1]), (7, [4])], []⟩ := by kernel_rfl
-- math/bits.Len64
theorem fn50 : TT.fn 50 = some Tryd.f50 := by kernel_rfl
theorem md50 : (TT.an 50).mode = 1 := by kernel_rfl
theorem fi50 : FI.of Tryd.f50 (TT.an 50) = ⟨[.tmp 2], 25, [(0, [0, 2]), (1, [0, 2, 4]), (2, [0]), (3, [0, 2]), (4, [0, 2, 8]), (5, [0, 2]), (6, [0, 2]), (7, [0, 2, 14]), (8, [0, 2]), (9, [0, 2]), (10, [2])], []⟩ := by kernel_rfl
-- (loop.example/g01121/impl.natural).trim
theorem fn51 : TT.fn 51 = some Tryd.f51 := by kernel_rfl
theorem md51 : (TT.an 51).mode = 1 := by kernel_rfl
theorem fi51 : FI.of Tryd.f51 (TT.an 51) = ⟨[.tmp 2], 21, [(0, [0]), (1, [0, 3]), (2, [0, 3, 15]), (3, [0, 3]), (4, [2])], []⟩ := by kernel_rfl
-- (loop.example/g01121/impl.natural).shared
theorem fn52 : TT.fn 52 = some Tryd.f52 := by kernel_rfl
theorem md52 : (TT.an 52).mode = 1 := by kernel_rfl
theorem fi52 : FI.of Tryd.f52 (TT.an 52) = ⟨[.tmp 4], 19, [(0, [0, 1]), (1, [0, 1, 9]), (2, [1, 6]), (3, [0, 1]), (4, [4])], []⟩ := by kernel_rfl
-- (loop.example/g01121/impl.natural).over
theorem fn53 : TT.fn 53 = some Tryd.f53 := by kernel_rfl
theorem md53 : (TT.an 53).mode = 1 := by kernel_rfl
theorem fi53 : FI.of Tryd.f53 (TT.an 53) = ⟨[.tmp 4, .tmp 5], 132, [(0, [0, 1]), (1, [0, 1, 21]), (2, [4, 5]), (3, [0, 1, 6]), (4, [6, 7, 8]), (5, [6, 7, 8, 9]), (6, [6, 7, 8, 9, 10]), (7, [6, 7, 8, 9, 10, 11]), (8, [6, 7, 8, 9, 10, 11, 48]), (9, [6, 7, 8, 9, 10, 11]), (10, [6, 7, 8, 9, 10, 11, 12]), (11, [6, 7, 8, 9, 10, 11, 13]), (12, [6, 7, 8, 9, 10, 11, 13, 14]), (13, [6, 7, 8, 9, 10, 11, 13, 14, 93]), (14, [6, 7, 8, 9, 10, 11, 13, 15]), (15, [6, 7, 8, 9, 10, 11, 13, 15]), (16, [6, 7, 8, 9, 10, 11, 13]), (17, [6, 7, 8, 9, 10, 11, 13]), (18, [6, 7, 8, 9, 10, 11]), (19, [10, 17]), (20, [4, 5])], []⟩ := by kernel_rfl
-- slices.IndexFunc[[]loop.example/g01121/impl.Fraction,loop.example/g01121/impl.Fraction]
theorem fn54 : TT.fn 54 = some Tryd.f54 := by kernel_rfl
theorem md54 : (TT.an 54).mode = 0 := by kernel_rfl
theorem fi54 : FI.of Tryd.f54 (TT.an 54) = ⟨[.tmp 4], 19, [(0, [0, 1]), (1, [0, 1, 7, 8]), (2, [0, 1, 7, 8, 9]), (3, [0, 1, 5, 7, 8]), (4, [0, 1, 5, 7, 8, 16]), (5, [4]), (6, [0, 1, 7, 8]), (7, [4])], []⟩ := by kernel_rfl
-- loop.example/g01121/impl.divisor
theorem fn55 : TT.fn 55 = some Tryd.f55 := by kernel_rfl
theorem md55 : (TT.an 55).mode = 1 := by kernel_rfl
theorem fi55 : FI.of Tryd.f55 (TT.an 55) = ⟨[.tmp 4], 12, [(0, [0, 1]), (1, [0, 1, 6]), (2, [0, 1]), (3, [4])], []⟩ := by kernel_rfl
-- (loop.example/g01121/impl.ratio).opposite
theorem fn56 : TT.fn 56 = some Tryd.f56 := by kernel_rfl
theorem md56 : (TT.an 56).mode = 1 := by kernel_rfl
theorem fi56 : FI.of Tryd.f56 (TT.an 56) = ⟨[.cell 2 43], 14, [(0, [1, 2]), (1, [1, 2]), (2, [2])], []⟩ := by kernel_rfl
-- (*strings.asciiSet).contains
theorem fn57 : TT.fn 57 = some Tryd.f57 := by kernel_rfl
theorem md57 : (TT.an 57).mode = 0 := by kernel_rfl
theorem fi57 : FI.of Tryd.f57 (TT.an 57) = ⟨[.tmp 4], 10, [(0, [0, 1]), (1, [4])], []⟩ := by kernel_rfl
-- unicode/utf8.DecodeRuneInString
theorem fn58 : TT.fn 58 = some Tryd.f58 := by kernel_rfl
theorem md58 : (TT.an 58).mode = 1 := by kernel_rfl
theorem fi58 : FI.of Tryd.f58 (TT.an 58) = ⟨[.tmp 2, .tmp 3], 19, [(0, [0]), (1, [0, 10]), (2, [2, 3]), (3, [2, 3])], []⟩ := by kernel_rfl
-- strings.ContainsRune
theorem fn59 : TT.fn 59 = some Tryd.f59 := by kernel_rfl
theorem md59 : (TT.an 59).mode = 1 := by kernel_rfl
theorem fi59 : FI.of Tryd.f59 (TT.an 59) = ⟨[.tmp 4], 9, [(0, [0, 1]), (1, [4])], []⟩ := by kernel_rfl
-- unicode/utf8.DecodeLastRuneInString
theorem fn60 : TT.fn 60 = some Tryd.f60 := by kernel_rfl
theorem md60 : (TT.an 60).mode = 1 := by kernel_rfl
theorem fi60 : FI.of Tryd.f60 (TT.an 60) = ⟨[.tmp 2, .tmp 3], 51, [(0, [0]), (1, [0, 4]), (2, [0, 4, 10]), (3, [2, 3]), (4, [0, 4, 5]), (5, [0, 2, 4, 5]), (6, [0, 2, 4, 5, 18]), (7, [2, 3]), (8, [0, 4, 5, 6]), (9, [0, 4, 5, 6]), (10, [0, 4, 5, 6, 27]), (11, [0, 4, 5, 6]), (12, [0, 4, 5, 6, 33]), (13, [0, 4, 5, 35]), (14, [0, 4, 5]), (15, [2, 3, 4, 5]), (16, [2, 3, 48]), (17, [2, 3]), (18, [2, 3])], []⟩ := by kernel_rfl
-- math/bits.LeadingZeros32
theorem fn61 : TT.fn 61 = some Tryd.f61 := by kernel_rfl
theorem md61 : (TT.an 61).mode = 1 := by kernel_rfl
theorem fi61 : FI.of Tryd.f61 (TT.an 61) = ⟨[.tmp 2], 6, [(0, [0]), (1, [2])], []⟩ := by kernel_rfl
-- (loop.example/g01121/impl.natural).up
theorem fn62 : TT.fn 62 = some Tryd.f62 := by kernel_rfl
theorem md62 : (TT.an 62).mode = 2 := by kernel_rfl
theorem fi62 : FI.of Tryd.f62 (TT.an 62) = ⟨[.tmp 4], 41, [(0, [0, 1]), (1, [0, 1, 5, 6]), (2, [0, 1, 5, 6, 13, 14, 15]), (3, [0, 1, 5, 6, 13, 14, 15, 16]), (4, [0, 1, 5, 6, 7, 8, 13, 14, 15]), (5, [0, 1, 5, 6, 7, 13, 14, 15]), (6, [0, 1, 5, 6, 13, 14, 15]), (7, [0, 1, 5, 6, 13, 14, 15]), (8, [0, 1, 5, 6, 13, 14, 15]), (9, [5]), (10, [4])], []⟩ := by kernel_rfl
-- slices.Clone[loop.example/g01121/impl.natural,uint32]
theorem fn63 : TT.fn 63 = some Tryd.f63 := by kernel_rfl
theorem md63 : (TT.an 63).mode = 2 := by kernel_rfl
theorem fi63 : FI.of Tryd.f63 (TT.an 63) = ⟨[.tmp 2], 8, [(0, [0]), (1, [0, 4]), (2, [2]), (3, [2])], []⟩ := by kernel_rfl
-- (loop.example/g01121/impl.natural).down
theorem fn64 : TT.fn 64 = some Tryd.f64 := by kernel_rfl
theorem md64 : (TT.an 64).mode = 1 := by kernel_rfl
theorem fi64 : FI.of Tryd.f64 (TT.an 64) = ⟨[.tmp 4, .tmp 5], 43, [(0, [0, 1]), (1, [0, 1, 6, 7]), (2, [0, 1, 6, 7, 8]), (3, [0, 1, 6, 7, 8, 16]), (4, [0, 1, 6, 7, 8]), (5, [0, 1, 6, 7, 8]), (6, [0, 1, 6, 7, 8]), (7, [0, 1, 6, 7, 8]), (8, [4, 5])], []⟩ := by kernel_rfl
-- unicode/utf8.decodeRuneInStringSlow
theorem fn65 : TT.fn 65 = some Tryd.f65 := by kernel_rfl
theorem md65 : (TT.an 65).mode = 1 := by kernel_rfl
theorem fi65 : FI.of Tryd.f65 (TT.an 65) = ⟨[.tmp 2, .tmp 3], 117, [(0, [0]), (1, [0, 4]), (2, [0, 4, 16]), (3, [2, 3]), (4, [0, 4, 5]), (5, [0, 4, 5, 6]), (6, [0, 4, 5, 6, 23]), (7, [0, 7]), (8, [2, 3]), (9, [0, 4, 5, 6, 8]), (10, [0, 4, 5, 8, 9]), (11, [0, 5, 8, 9, 45]), (12, [2, 3]), (13, [0, 5, 8, 9, 10]), (14, [0, 5, 8, 10, 57]), (15, [2, 3]), (16, [0, 5, 8, 10, 59]), (17, [2, 3]), (18, [0, 5, 8, 10, 11]), (19, [0, 5, 8, 10, 11, 75]), (20, [2, 3]), (21, [0, 5, 10, 11, 77]), (22, [2, 3]), (23, [5, 10, 11, 12]), (24, [5, 10, 11, 12, 98]), (25, [2, 3]), (26, [2, 3])], []⟩ := by kernel_rfl
-- strings.IndexRune
theorem fn66 : TT.fn 66 = some Tryd.f66 := by kernel_rfl
theorem md66 : (TT.an 66).mode = 1 := by kernel_rfl
theorem fi66 : FI.of Tryd.f66 (TT.an 66) = ⟨[.tmp 4], 187, [(0, [0, 1, 4]), (34, [0, 1, 4, 160]), (35, [4]), (36, [0, 1, 4, 171]), (37, [175]), (38, [175, 176, 177]), (39, [5, 6, 175]), (40, [5, 175, 181]), (41, [4]), (42, [4]), (43, [4, 183]), (44, [4])], []⟩ := by kernel_rfl
-- unicode/utf8.RuneStart
theorem fn67 : TT.fn 67 = some Tryd.f67 := by kernel_rfl
theorem md67 : (TT.an 67).mode = 1 := by kernel_rfl
theorem fi67 : FI.of Tryd.f67 (TT.an 67) = ⟨[.tmp 2], 6, [(0, [0]), (1, [2])], []⟩ := by kernel_rfl
-- math/bits.Len32
theorem fn68 : TT.fn 68 = some Tryd.f68 := by kernel_rfl
theorem md68 : (TT.an 68).mode = 1 := by kernel_rfl
theorem fi68 : FI.of Tryd.f68 (TT.an 68) = ⟨[.tmp 2], 19, [(0, [0, 2]), (1, [0, 2, 4]), (2, [0]), (3, [0, 2]), (4, [0, 2, 8]), (5, [0, 2]), (6, [0, 2]), (7, [2])], []⟩ := by kernel_rfl
-- strings.IndexByte
theorem fn69 : TT.fn 69 = some Tryd.f69 := by kernel_rfl
theorem md69 : (TT.an 69).mode = 1 := by kernel_rfl
theorem fi69 : FI.of Tryd.f69 (TT.an 69) = ⟨[.tmp 4], 8, [(0, [0, 1]), (1, [4])], []⟩ := by kernel_rfl
-- unicode/utf8.ValidRune
theorem fn70 : TT.fn 70 = some Tryd.f70 := by kernel_rfl
theorem md70 : (TT.an 70).mode = 1 := by kernel_rfl
theorem fi70 : FI.of Tryd.f70 (TT.an 70) = ⟨[.tmp 2], 17, [(0, [0]), (1, [0, 3]), (2, [2]), (3, [10]), (4, [2]), (5, [2])], []⟩ := by kernel_rfl
-- internal/bytealg.Cutover
theorem fn71 : TT.fn 71 = some Tryd.f71 := by kernel_rfl
theorem md71 : (TT.an 71).mode = 1 := by kernel_rfl
theorem fi71 : FI.of Tryd.f71 (TT.an 71) = ⟨[.tmp 2], 6, [(0, [0]), (1, [2])], []⟩ := by kernel_rfl
-- internal/stringslite.IndexByte
theorem fn73 : TT.fn 73 = some Tryd.f73 := by kernel_rfl
theorem md73 : (TT.an 73).mode = 1 := by kernel_rfl
theorem fi73 : FI.of Tryd.f73 (TT.an 73) = ⟨[.tmp 4], 8, [(0, [0, 1]), (1, [4])], []⟩ := by kernel_rfl
theorem ty1 : TT.ty 1 = some ⟨.func, 1, 8, [.nilF]⟩ := by kernel_rfl
theorem ty2 : TT.ty 2 = some ⟨.int .i64, 1, 8, [.int .i64 0]⟩ := by kernel_rfl
theorem ty3 : TT.ty 3 = some ⟨.int .i64, 1, 8, [.int .i64 0]⟩ := by kernel_rfl
theorem ty4 : TT.ty 4 = some ⟨.bool, 1, 1, [.bool false]⟩ := by kernel_rfl
theorem ty5 : TT.ty 5 = some ⟨.int .u8, 1, 1, [.int .u8 0]⟩ := by kernel_rfl
theorem ty6 : TT.ty 6 = some ⟨.int .u8, 1, 1, [.int .u8 0]⟩ := by kernel_rfl
theorem ty7 : TT.ty 7 = some ⟨.struct [(2, 0), (3, 1), (4, 2), (6, 3)], 4, 24, [.int .i64 0, .int .i64 0, .bool false, .int .u8 0]⟩ := by kernel_rfl
theorem ty8 : TT.ty 8 = some ⟨.struct [(2, 0), (3, 1), (4, 2), (6, 3)], 4, 24, [.int .i64 0, .int .i64 0, .bool false, .int .u8 0]⟩ := by kernel_rfl
theorem ty9 : TT.ty 9 = some ⟨.string, 1, 16, [.str []]⟩ := by kernel_rfl
theorem ty10 : TT.ty 10 = some ⟨.string, 1, 16, [.str []]⟩ := by kernel_rfl
theorem ty11 : TT.ty 11 = some ⟨.string, 1, 16, [.str []]⟩ := by kernel_rfl
theorem ty12 : TT.ty 12 = some ⟨.int .u64, 1, 8, [.int .u64 0]⟩ := by kernel_rfl
theorem ty15 : TT.ty 15 = some ⟨.pointer, 1, 8, [.nilP]⟩ := by kernel_rfl
theorem ty16 : TT.ty 16 = some ⟨.pointer, 1, 8, [.nilP]⟩ := by kernel_rfl
theorem ty17 : TT.ty 17 = some ⟨.pointer, 1, 8, [.nilP]⟩ := by kernel_rfl
theorem ty20 : TT.ty 20 = some ⟨.iface, 1, 16, [.nilI]⟩ := by kernel_rfl
theorem ty21 : TT.ty 21 = some ⟨.int .i32, 1, 4, [.int .i32 0]⟩ := by kernel_rfl
theorem ty22 : TT.ty 22 = some ⟨.slice 5, 1, 24, [.nilS]⟩ := by kernel_rfl
theorem ty23 : TT.ty 23 = some ⟨.func, 1, 8, [.nilF]⟩ := by kernel_rfl
theorem ty24 : TT.ty 24 = some ⟨.func, 1, 8, [.nilF]⟩ := by kernel_rfl
theorem ty25 : TT.ty 25 = some ⟨.slice 2, 1, 24, [.nilS]⟩ := by kernel_rfl
theorem ty26 : TT.ty 26 = some ⟨.int .u64, 1, 8, [.int .u64 0]⟩ := by kernel_rfl
theorem ty27 : TT.ty 27 = some ⟨.func, 1, 8, [.nilF]⟩ := by kernel_rfl
theorem ty29 : TT.ty 29 = some ⟨.func, 1, 8, [.nilF]⟩ := by kernel_rfl
theorem ty30 : TT.ty 30 = some ⟨.struct [(2, 0), (2, 1)], 2, 16, [.int .i64 0, .int .i64 0]⟩ := by kernel_rfl
theorem ty31 : TT.ty 31 = some ⟨.struct [(2, 0), (2, 1)], 2, 16, [.int .i64 0, .int .i64 0]⟩ := by kernel_rfl
theorem ty33 : TT.ty 33 = some ⟨.func, 1, 8, [.nilF]⟩ := by kernel_rfl
theorem ty35 : TT.ty 35 = some ⟨.func, 1, 8, [.nilF]⟩ := by kernel_rfl
theorem ty36 : TT.ty 36 = some ⟨.func, 1, 8, [.nilF]⟩ := by kernel_rfl
theorem ty37 : TT.ty 37 = some ⟨.func, 1, 8, [.nilF]⟩ := by kernel_rfl
theorem ty38 : TT.ty 38 = some ⟨.func, 1, 8, [.nilF]⟩ := by kernel_rfl
theorem ty39 : TT.ty 39 = some ⟨.func, 1, 8, [.nilF]⟩ := by kernel_rfl
theorem ty40 : TT.ty 40 = some ⟨.slice 74, 1, 24, [.nilS]⟩ := by kernel_rfl
theorem ty41 : TT.ty 41 = some ⟨.slice 74, 1, 24, [.nilS]⟩ := by kernel_rfl
theorem ty42 : TT.ty 42 = some ⟨.struct [(4, 0), (41, 1), (41, 2)], 3, 56, [.bool false, .nilS, .nilS]⟩ := by kernel_rfl
theorem ty43 : TT.ty 43 = some ⟨.struct [(4, 0), (41, 1), (41, 2)], 3, 56, [.bool false, .nilS, .nilS]⟩ := by kernel_rfl
theorem ty44 : TT.ty 44 = some ⟨.func, 1, 8, [.nilF]⟩ := by kernel_rfl
theorem ty45 : TT.ty 45 = some ⟨.func, 1, 8, [.nilF]⟩ := by kernel_rfl
theorem ty46 : TT.ty 46 = some ⟨.func, 1, 8, [.nilF]⟩ := by kernel_rfl
theorem ty48 : TT.ty 48 = some ⟨.func, 1, 8, [.nilF]⟩ := by kernel_rfl
theorem ty49 : TT.ty 49 = some ⟨.func, 1, 8, [.nilF]⟩ := by kernel_rfl
theorem ty50 : TT.ty 50 = some ⟨.func, 1, 8, [.nilF]⟩ := by kernel_rfl
theorem ty51 : TT.ty 51 = some ⟨.func, 1, 8, [.nilF]⟩ := by kernel_rfl
theorem ty52 : TT.ty 52 = some ⟨.func, 1, 8, [.nilF]⟩ := by kernel_rfl
theorem ty53 : TT.ty 53 = some ⟨.func, 1, 8, [.nilF]⟩ := by kernel_rfl
theorem ty54 : TT.ty 54 = some ⟨.func, 1, 8, [.nilF]⟩ := by kernel_rfl
theorem ty55 : TT.ty 55 = some ⟨.func, 1, 8, [.nilF]⟩ := by kernel_rfl
theorem ty56 : TT.ty 56 = some ⟨.func, 1, 8, [.nilF]⟩ := by kernel_rfl
theorem ty57 : TT.ty 57 = some ⟨.func, 1, 8, [.nilF]⟩ := by kernel_rfl
theorem ty58 : TT.ty 58 = some ⟨.func, 1, 8, [.nilF]⟩ := by kernel_rfl
theorem ty59 : TT.ty 59 = some ⟨.func, 1, 8, [.nilF]⟩ := by kernel_rfl
theorem ty60 : TT.ty 60 = some ⟨.func, 1, 8, [.nilF]⟩ := by kernel_rfl
theorem ty61 : TT.ty 61 = some ⟨.slice 31, 1, 24, [.nilS]⟩ := by kernel_rfl
theorem ty62 : TT.ty 62 = some ⟨.func, 1, 8, [.nilF]⟩ := by kernel_rfl
theorem ty63 : TT.ty 63 = some ⟨.func, 1, 8, [.nilF]⟩ := by kernel_rfl
theorem ty64 : TT.ty 64 = some ⟨.func, 1, 8, [.nilF]⟩ := by kernel_rfl
theorem ty65 : TT.ty 65 = some ⟨.func, 1, 8, [.nilF]⟩ := by kernel_rfl
theorem ty66 : TT.ty 66 = some ⟨.array 256 4, 256, 256, (List.replicate 256 (.bool false))⟩ := by kernel_rfl
theorem ty67 : TT.ty 67 = some ⟨.array 256 4, 256, 256, (List.replicate 256 (.bool false))⟩ := by kernel_rfl
theorem ty69 : TT.ty 69 = some ⟨.func, 1, 8, [.nilF]⟩ := by kernel_rfl
theorem ty70 : TT.ty 70 = some ⟨.func, 1, 8, [.nilF]⟩ := by kernel_rfl
theorem ty71 : TT.ty 71 = some ⟨.pointer, 1, 8, [.nilP]⟩ := by kernel_rfl
theorem ty72 : TT.ty 72 = some ⟨.func, 1, 8, [.nilF]⟩ := by kernel_rfl
theorem ty73 : TT.ty 73 = some ⟨.int .u64, 1, 8, [.int .u64 0]⟩ := by kernel_rfl
theorem ty74 : TT.ty 74 = some ⟨.int .u32, 1, 4, [.int .u32 0]⟩ := by kernel_rfl
theorem ty75 : TT.ty 75 = some ⟨.func, 1, 8, [.nilF]⟩ := by kernel_rfl
theorem ty77 : TT.ty 77 = some ⟨.func, 1, 8, [.nilF]⟩ := by kernel_rfl
theorem ty78 : TT.ty 78 = some ⟨.func, 1, 8, [.nilF]⟩ := by kernel_rfl
theorem ty79 : TT.ty 79 = some ⟨.func, 1, 8, [.nilF]⟩ := by kernel_rfl
theorem ty80 : TT.ty 80 = some ⟨.func, 1, 8, [.nilF]⟩ := by kernel_rfl
theorem ty82 : TT.ty 82 = some ⟨.func, 1, 8, [.nilF]⟩ := by kernel_rfl
theorem ty83 : TT.ty 83 = some ⟨.func, 1, 8, [.nilF]⟩ := by kernel_rfl
theorem ty84 : TT.ty 84 = some ⟨.func, 1, 8, [.nilF]⟩ := by kernel_rfl
theorem ty85 : TT.ty 85 = some ⟨.func, 1, 8, [.nilF]⟩ := by kernel_rfl
theorem ty87 : TT.ty 87 = some ⟨.func, 1, 8, [.nilF]⟩ := by kernel_rfl
theorem ty88 : TT.ty 88 = some ⟨.func, 1, 8, [.nilF]⟩ := by kernel_rfl
theorem ty89 : TT.ty 89 = some ⟨.array 256 5, 256, 256, (List.replicate 256 (.int .u8 0))⟩ := by kernel_rfl
theorem ty90 : TT.ty 90 = some ⟨.struct [(5, 0), (5, 1)], 2, 2, [.int .u8 0, .int .u8 0]⟩ := by kernel_rfl
theorem ty91 : TT.ty 91 = some ⟨.struct [(5, 0), (5, 1)], 2, 2, [.int .u8 0, .int .u8 0]⟩ := by kernel_rfl
theorem ty92 : TT.ty 92 = some ⟨.array 16 91, 32, 32, [.int .u8 0, .int .u8 0, .int .u8 0, .int .u8 0, .int .u8 0, .int .u8 0, .int .u8 0, .int .u8 0, .int .u8 0, .int .u8 0, .int .u8 0, .int .u8 0, .int .u8 0, .int .u8 0, .int .u8 0, .int .u8 0, .int .u8 0, .int .u8 0, .int .u8 0, .int .u8 0, .int .u8 0, .int .u8 0, .int .u8 0, .int .u8 0, .int .u8 0, .int .u8 0, .int .u8 0, .int .u8 0, .int .u8 0, .int .u8 0, .int .u8 0, .int .u8 0]⟩ := by kernel_rfl
theorem ty93 : TT.ty 93 = some ⟨.func, 1, 8, [.nilF]⟩ := by kernel_rfl
theorem ty94 : TT.ty 94 = some ⟨.func, 1, 8, [.nilF]⟩ := by kernel_rfl
theorem ty95 : TT.ty 95 = some ⟨.func, 1, 8, [.nilF]⟩ := by kernel_rfl
theorem ty96 : TT.ty 96 = some ⟨.func, 1, 8, [.nilF]⟩ := by kernel_rfl
theorem ty97 : TT.ty 97 = some ⟨.func, 1, 8, [.nilF]⟩ := by kernel_rfl
theorem ty100 : TT.ty 100 = some ⟨.array 0 16, 0, 0, []⟩ := by kernel_rfl
theorem ty103 : TT.ty 103 = some ⟨.func, 1, 8, [.nilF]⟩ := by kernel_rfl
theorem ty104 : TT.ty 104 = some ⟨.int .u8, 1, 1, [.int .u8 0]⟩ := by kernel_rfl
theorem ty105 : TT.ty 105 = some ⟨.int .u8, 1, 1, [.int .u8 0]⟩ := by kernel_rfl
theorem ty106 : TT.ty 106 = some ⟨.func, 1, 8, [.nilF]⟩ := by kernel_rfl
theorem ty107 : TT.ty 107 = some ⟨.pointer, 1, 8, [.nilP]⟩ := by kernel_rfl
theorem ty108 : TT.ty 108 = some ⟨.int .i32, 1, 4, [.int .i32 0]⟩ := by kernel_rfl
theorem ty109 : TT.ty 109 = some ⟨.int .i32, 1, 4, [.int .i32 0]⟩ := by kernel_rfl
theorem ty112 : TT.ty 112 = some ⟨.other, 1, 8, [.nilP]⟩ := by kernel_rfl
end Go.Proofs.YtjecbjnckbihoaaDoor
