/- Facts on the tables of this seat. Nothing is claimed here; no condition. -/
import Derived.Test.YtaniaeefijgaiaaAbsY
import Derived.Test.YtaniaeefijgaiaaTab
namespace Go.Proofs.Ytaniaeefijgaiaa
open Go Go.Abs
-- loop.example/g01121/laws.FnExactReservoirBy
theorem fn3 : TT.fn 3 = some Try.f3 := by kernel_rfl
theorem md3 : (TT.an 3).mode = 1 := by kernel_rfl
theorem fi3 : FI.of Try.f3 (TT.an 3) = ⟨[.tmp 4], 98, [(0, [0, 1]), (1, [0, 1, 17]), (2, [4]), (3, [0, 1, 5, 6]), (4, [0, 1, 5, 6, 7]), (5, [0, 1, 5, 6, 7, 8, 9]), (6, [0, 1, 5, 6, 7, 8, 9, 41]), (7, [4]), (8, [0, 1, 5, 6, 7, 8, 9, 46]), (9, [4]), (10, [0, 1, 5, 6, 7, 8, 9, 10]), (11, [0, 1, 5, 6, 8, 9, 10]), (12, [0, 1, 5, 6, 8, 62]), (13, [4]), (14, [0, 1, 5, 6, 8, 11]), (15, [0, 1, 5, 6, 8, 11]), (16, [0, 1, 5, 6, 8, 11, 12]), (17, [0, 1, 5, 6, 8, 11, 12]), (18, [0, 1, 5, 6, 8, 11, 12, 70]), (19, [4]), (20, [0, 1, 5, 6, 8, 11, 73]), (21, [4]), (22, [5, 6, 8, 11, 13, 14]), (23, [8, 11, 89]), (24, [4]), (25, [8, 11, 12]), (26, [11, 12]), (27, [11, 12, 94]), (28, [4]), (29, [97]), (30, [4]), (31, [4])], []⟩ := by kernel_rfl
-- loop.example/g01121/laws.FnExactCyclicBy
theorem fn4 : TT.fn 4 = some Try.f4 := by kernel_rfl
theorem md4 : (TT.an 4).mode = 1 := by kernel_rfl
theorem fi4 : FI.of Try.f4 (TT.an 4) = ⟨[.tmp 2], 93, [(0, [0]), (1, [0, 15]), (2, [2]), (3, [0, 3, 4]), (4, [0, 3, 4, 5]), (5, [0, 3, 4, 5, 6, 7]), (6, [0, 3, 4, 5, 6, 7, 37]), (7, [2]), (8, [0, 3, 4, 5, 6, 7, 42]), (9, [2]), (10, [0, 3, 4, 5, 6, 7, 8]), (11, [0, 3, 4, 6, 7, 8]), (12, [0, 3, 4, 6, 58]), (13, [2]), (14, [0, 3, 4, 6, 9]), (15, [0, 3, 4, 6, 9]), (16, [0, 3, 4, 6, 9, 10]), (17, [0, 3, 4, 6, 9, 10]), (18, [0, 3, 4, 6, 9, 10, 66]), (19, [2]), (20, [0, 3, 4, 6, 9, 69]), (21, [2]), (22, [3, 4, 6, 9, 11, 12]), (23, [6, 9, 84]), (24, [2]), (25, [6, 9, 10]), (26, [9, 10]), (27, [9, 10, 89]), (28, [2]), (29, [92]), (30, [2]), (31, [2])], []⟩ := by kernel_rfl
-- loop.example/g01121/laws.FnExactShuffleBy
theorem fn5 : TT.fn 5 = some Try.f5 := by kernel_rfl
theorem md5 : (TT.an 5).mode = 1 := by kernel_rfl
theorem fi5 : FI.of Try.f5 (TT.an 5) = ⟨[.tmp 2], 93, [(0, [0]), (1, [0, 15]), (2, [2]), (3, [0, 3, 4]), (4, [0, 3, 4, 5]), (5, [0, 3, 4, 5, 6, 7]), (6, [0, 3, 4, 5, 6, 7, 37]), (7, [2]), (8, [0, 3, 4, 5, 6, 7, 42]), (9, [2]), (10, [0, 3, 4, 5, 6, 7, 8]), (11, [0, 3, 4, 6, 7, 8]), (12, [0, 3, 4, 6, 58]), (13, [2]), (14, [0, 3, 4, 6, 9]), (15, [0, 3, 4, 6, 9]), (16, [0, 3, 4, 6, 9, 10]), (17, [0, 3, 4, 6, 9, 10]), (18, [0, 3, 4, 6, 9, 10, 66]), (19, [2]), (20, [0, 3, 4, 6, 9, 69]), (21, [2]), (22, [3, 4, 6, 9, 11, 12]), (23, [6, 9, 84]), (24, [2]), (25, [6, 9, 10]), (26, [9, 10]), (27, [9, 10, 89]), (28, [2]), (29, [92]), (30, [2]), (31, [2])], []⟩ := by kernel_rfl
-- loop.example/g01121/laws.FnExactOrderAt
theorem fn6 : TT.fn 6 = some Try.f6 := by kernel_rfl
theorem md6 : (TT.an 6).mode = 1 := by kernel_rfl
theorem fi6 : FI.of Try.f6 (TT.an 6) = ⟨[.tmp 4], 68, [(0, [0, 1]), (1, [0, 1, 5, 6]), (2, [0, 1, 5, 6, 7, 8]), (3, [0, 1, 5, 6, 7, 33]), (4, [4]), (5, [0, 1, 5, 6, 7, 9]), (6, [0, 1, 5, 6, 7, 9]), (7, [0, 1, 5, 6, 7, 9, 10]), (8, [0, 1, 5, 6, 7, 9, 10]), (9, [0, 1, 5, 6, 7, 9, 10, 41]), (10, [4]), (11, [0, 1, 5, 6, 7, 9, 44]), (12, [4]), (13, [5, 6, 7, 9, 11, 12]), (14, [7, 9, 59]), (15, [4]), (16, [7, 9, 10]), (17, [9, 10]), (18, [9, 10, 64]), (19, [4]), (20, [67]), (21, [4]), (22, [4])], []⟩ := by kernel_rfl
-- loop.example/g01121/laws.FnExactNaiveBy
theorem fn7 : TT.fn 7 = some Try.f7 := by kernel_rfl
theorem md7 : (TT.an 7).mode = 1 := by kernel_rfl
theorem fi7 : FI.of Try.f7 (TT.an 7) = ⟨[.tmp 2], 93, [(0, [0]), (1, [0, 15]), (2, [2]), (3, [0, 3, 4]), (4, [0, 3, 4, 5]), (5, [0, 3, 4, 5, 6, 7]), (6, [0, 3, 4, 5, 6, 7, 37]), (7, [2]), (8, [0, 3, 4, 5, 6, 7, 42]), (9, [2]), (10, [0, 3, 4, 5, 6, 7, 8]), (11, [0, 3, 4, 6, 7, 8]), (12, [0, 3, 4, 6, 58]), (13, [2]), (14, [0, 3, 4, 6, 9]), (15, [0, 3, 4, 6, 9]), (16, [0, 3, 4, 6, 9, 10]), (17, [0, 3, 4, 6, 9, 10]), (18, [0, 3, 4, 6, 9, 10, 66]), (19, [2]), (20, [0, 3, 4, 6, 9, 69]), (21, [2]), (22, [3, 4, 6, 9, 11, 12]), (23, [6, 9, 84]), (24, [2]), (25, [6, 9, 10]), (26, [9, 10]), (27, [9, 10, 89]), (28, [2]), (29, [92]), (30, [2]), (31, [2])], []⟩ := by kernel_rfl
-- loop.example/g01121/laws.FnExactNaiveCounts
theorem fn8 : TT.fn 8 = some Try.f8 := by kernel_rfl
theorem md8 : (TT.an 8).mode = 1 := by kernel_rfl
theorem fi8 : FI.of Try.f8 (TT.an 8) = ⟨[.tmp 2], 63, [(0, [0]), (1, [0, 3, 4]), (2, [0, 3, 4, 5, 6]), (3, [0, 3, 4, 5, 29]), (4, [2]), (5, [0, 3, 4, 5, 7]), (6, [0, 3, 4, 5, 7]), (7, [0, 3, 4, 5, 7, 8]), (8, [0, 3, 4, 5, 7, 8]), (9, [0, 3, 4, 5, 7, 8, 37]), (10, [2]), (11, [0, 3, 4, 5, 7, 40]), (12, [2]), (13, [3, 4, 5, 7, 9, 10]), (14, [5, 7, 54]), (15, [2]), (16, [5, 7, 8]), (17, [7, 8]), (18, [7, 8, 59]), (19, [2]), (20, [62]), (21, [2]), (22, [2])], []⟩ := by kernel_rfl
-- loop.example/g01121/laws.FnExactSetAt
theorem fn9 : TT.fn 9 = some Try.f9 := by kernel_rfl
theorem md9 : (TT.an 9).mode = 1 := by kernel_rfl
theorem fi9 : FI.of Try.f9 (TT.an 9) = ⟨[.tmp 6], 73, [(0, [0, 1, 2]), (1, [0, 1, 2, 7, 8]), (2, [0, 1, 2, 7, 8, 9, 10]), (3, [0, 1, 2, 7, 8, 9, 37]), (4, [6]), (5, [0, 1, 2, 7, 8, 9, 11]), (6, [0, 1, 2, 7, 8, 9, 11]), (7, [0, 1, 2, 7, 8, 9, 11, 12]), (8, [0, 1, 2, 7, 8, 9, 11, 12]), (9, [0, 1, 2, 7, 8, 9, 11, 12, 45]), (10, [6]), (11, [0, 1, 2, 7, 8, 9, 11, 48]), (12, [6]), (13, [7, 8, 9, 11, 13, 14]), (14, [9, 11, 64]), (15, [6]), (16, [9, 11, 12]), (17, [11, 12]), (18, [11, 12, 69]), (19, [6]), (20, [72]), (21, [6]), (22, [6])], []⟩ := by kernel_rfl
-- loop.example/g01121/laws.FnExactRankSet
theorem fn10 : TT.fn 10 = some Try.f10 := by kernel_rfl
theorem md10 : (TT.an 10).mode = 1 := by kernel_rfl
theorem fi10 : FI.of Try.f10 (TT.an 10) = ⟨[.tmp 4], 41, [(0, [0, 1]), (1, [0, 1, 12]), (2, [4]), (3, [0, 1, 5, 6]), (4, [0, 1, 5, 6, 7]), (5, [1, 5, 6, 7, 8, 9]), (6, [1, 7, 35]), (7, [4]), (8, [40]), (9, [4]), (10, [4])], []⟩ := by kernel_rfl
-- loop.example/g01121/laws.FnExactIsOrder
theorem fn11 : TT.fn 11 = some Try.f11 := by kernel_rfl
theorem md11 : (TT.an 11).mode = 1 := by kernel_rfl
theorem fi11 : FI.of Try.f11 (TT.an 11) = ⟨[.tmp 2], 24, [(0, [0]), (1, [0, 8]), (2, [2]), (3, [0, 3]), (4, [0, 3, 4]), (5, [0, 3, 4, 5]), (6, [0, 4, 18]), (7, [2]), (8, [23]), (9, [2]), (10, [2])], []⟩ := by kernel_rfl
-- loop.example/g01121/laws.FnExactSampleBy
theorem fn12 : TT.fn 12 = some Try.f12 := by kernel_rfl
theorem md12 : (TT.an 12).mode = 1 := by kernel_rfl
theorem fi12 : FI.of Try.f12 (TT.an 12) = ⟨[.tmp 4], 98, [(0, [0, 1]), (1, [0, 1, 17]), (2, [4]), (3, [0, 1, 5, 6]), (4, [0, 1, 5, 6, 7]), (5, [0, 1, 5, 6, 7, 8, 9]), (6, [0, 1, 5, 6, 7, 8, 9, 41]), (7, [4]), (8, [0, 1, 5, 6, 7, 8, 9, 46]), (9, [4]), (10, [0, 1, 5, 6, 7, 8, 9, 10]), (11, [0, 1, 5, 6, 8, 9, 10]), (12, [0, 1, 5, 6, 8, 62]), (13, [4]), (14, [0, 1, 5, 6, 8, 11]), (15, [0, 1, 5, 6, 8, 11]), (16, [0, 1, 5, 6, 8, 11, 12]), (17, [0, 1, 5, 6, 8, 11, 12]), (18, [0, 1, 5, 6, 8, 11, 12, 70]), (19, [4]), (20, [0, 1, 5, 6, 8, 11, 73]), (21, [4]), (22, [5, 6, 8, 11, 13, 14]), (23, [8, 11, 89]), (24, [4]), (25, [8, 11, 12]), (26, [11, 12]), (27, [11, 12, 94]), (28, [4]), (29, [97]), (30, [4]), (31, [4])], []⟩ := by kernel_rfl
-- loop.example/g01121/laws.FnExactRisingOf
theorem fn13 : TT.fn 13 = some Try.f13 := by kernel_rfl
theorem md13 : (TT.an 13).mode = 1 := by kernel_rfl
theorem fi13 : FI.of Try.f13 (TT.an 13) = ⟨[.tmp 2], 37, [(0, [0]), (1, [0, 10]), (2, [2]), (3, [0, 3, 4]), (4, [0, 3, 4, 5]), (5, [0, 3, 4, 5, 6, 7]), (6, [0, 5, 31]), (7, [2]), (8, [36]), (9, [2]), (10, [2])], []⟩ := by kernel_rfl
-- loop.example/g01121/laws.FnExactRankOrder
theorem fn14 : TT.fn 14 = some Try.f14 := by kernel_rfl
theorem md14 : (TT.an 14).mode = 1 := by kernel_rfl
theorem fi14 : FI.of Try.f14 (TT.an 14) = ⟨[.tmp 2], 37, [(0, [0]), (1, [0, 10]), (2, [2]), (3, [0, 3, 4]), (4, [0, 3, 4, 5]), (5, [0, 3, 4, 5, 6, 7]), (6, [0, 5, 31]), (7, [2]), (8, [36]), (9, [2]), (10, [2])], []⟩ := by kernel_rfl
-- loop.example/g01121/laws.FnExactChoicesOf
theorem fn15 : TT.fn 15 = some Try.f15 := by kernel_rfl
theorem md15 : (TT.an 15).mode = 1 := by kernel_rfl
theorem fi15 : FI.of Try.f15 (TT.an 15) = ⟨[.tmp 2], 93, [(0, [0]), (1, [0, 15]), (2, [2]), (3, [0, 3, 4]), (4, [0, 3, 4, 5]), (5, [0, 3, 4, 5, 6, 7]), (6, [0, 3, 4, 5, 6, 7, 37]), (7, [2]), (8, [0, 3, 4, 5, 6, 7, 42]), (9, [2]), (10, [0, 3, 4, 5, 6, 7, 8]), (11, [0, 3, 4, 6, 7, 8]), (12, [0, 3, 4, 6, 58]), (13, [2]), (14, [0, 3, 4, 6, 9]), (15, [0, 3, 4, 6, 9]), (16, [0, 3, 4, 6, 9, 10]), (17, [0, 3, 4, 6, 9, 10]), (18, [0, 3, 4, 6, 9, 10, 66]), (19, [2]), (20, [0, 3, 4, 6, 9, 69]), (21, [2]), (22, [3, 4, 6, 9, 11, 12]), (23, [6, 9, 84]), (24, [2]), (25, [6, 9, 10]), (26, [9, 10]), (27, [9, 10, 89]), (28, [2]), (29, [92]), (30, [2]), (31, [2])], []⟩ := by kernel_rfl
-- loop.example/g01121/laws.FnExactCyclesOf
theorem fn16 : TT.fn 16 = some Try.f16 := by kernel_rfl
theorem md16 : (TT.an 16).mode = 1 := by kernel_rfl
theorem fi16 : FI.of Try.f16 (TT.an 16) = ⟨[.tmp 2], 93, [(0, [0]), (1, [0, 15]), (2, [2]), (3, [0, 3, 4]), (4, [0, 3, 4, 5]), (5, [0, 3, 4, 5, 6, 7]), (6, [0, 3, 4, 5, 6, 7, 37]), (7, [2]), (8, [0, 3, 4, 5, 6, 7, 42]), (9, [2]), (10, [0, 3, 4, 5, 6, 7, 8]), (11, [0, 3, 4, 6, 7, 8]), (12, [0, 3, 4, 6, 58]), (13, [2]), (14, [0, 3, 4, 6, 9]), (15, [0, 3, 4, 6, 9]), (16, [0, 3, 4, 6, 9, 10]), (17, [0, 3, 4, 6, 9, 10]), (18, [0, 3, 4, 6, 9, 10, 66]), (19, [2]), (20, [0, 3, 4, 6, 9, 69]), (21, [2]), (22, [3, 4, 6, 9, 11, 12]), (23, [6, 9, 84]), (24, [2]), (25, [6, 9, 10]), (26, [9, 10]), (27, [9, 10, 89]), (28, [2]), (29, [92]), (30, [2]), (31, [2])], []⟩ := by kernel_rfl
-- loop.example/g01121/laws.FnSampled
theorem fn17 : TT.fn 17 = some Try.f17 := by kernel_rfl
theorem md17 : (TT.an 17).mode = 1 := by kernel_rfl
theorem fi17 : FI.of Try.f17 (TT.an 17) = ⟨[.tmp 4], 267, [(0, [0, 1]), (1, [0, 1, 40]), (2, [4]), (3, [1, 5]), (4, [5, 6]), (5, [5, 6, 49]), (6, [5, 6]), (7, [5, 6, 7, 8]), (8, [5, 6, 7, 8, 9]), (9, [5, 6, 7, 8, 9, 10]), (10, [5, 6, 7, 8, 9, 10, 11]), (11, [5, 6, 7, 8, 9, 10, 11, 12]), (12, [5, 6, 7, 8, 9, 10, 11, 12, 66]), (13, [5, 6, 7, 8, 9, 10, 11, 12]), (14, [5, 6, 7, 8, 9, 10, 11, 12]), (15, [5, 6, 7, 8, 9, 10, 11, 13]), (16, [5, 6, 7, 8, 9, 10, 11, 13, 75]), (17, [5, 6, 7, 8, 9, 10, 11, 13]), (18, [5, 6, 7, 8, 9, 10, 11, 13, 14]), (19, [5, 6, 7, 8, 9, 10, 11, 13, 14, 15]), (20, [5, 6, 7, 8, 9, 10, 11, 13, 14, 15, 16]), (21, [5, 6, 7, 8, 9, 10, 11, 13, 14, 15, 16, 85]), (22, [5, 6, 7, 8, 9, 10, 11, 13, 14, 15, 16]), (23, [5, 6, 7, 8, 9, 10, 11, 13, 14, 15, 16]), (24, [5, 6, 7, 8, 9, 10, 11, 13, 14, 15, 16]), (25, [5, 6, 7, 8, 9, 10, 11, 13, 17, 18]), (26, [5, 6, 7, 8, 9, 10, 11, 13, 17, 18, 19, 20]), (27, [5, 6, 7, 8, 9, 10, 11, 13, 19, 131]), (28, [4]), (29, [5, 6, 7, 8, 9, 10, 11, 13]), (30, [5, 6, 7, 8, 9, 10, 11, 21]), (31, [5, 6, 7, 8, 9, 10, 11, 21, 22]), (32, [5, 6, 7, 8, 9, 10, 11, 21, 22, 141]), (33, [5, 6, 7, 8, 9, 10, 11, 21, 22]), (34, [5, 6, 7, 8, 9, 10, 11, 21, 22]), (35, [5, 6, 7, 8, 9, 10, 11, 21, 23]), (36, [5, 6, 7, 8, 9, 10, 11, 21, 23, 150]), (37, [5, 6, 7, 8, 9, 10, 11, 21, 23]), (38, [5, 6, 7, 8, 9, 10, 11, 21, 23, 24]), (39, [5, 6, 7, 8, 9, 10, 11, 21, 23, 24, 25]), (40, [5, 6, 7, 8, 9, 10, 11, 21, 23, 24, 25, 26]), (41, [5, 6, 7, 8, 9, 10, 11, 21, 23, 24, 25, 26, 158]), (42, [5, 6, 7, 8, 9, 10, 11, 21, 23, 24, 25, 26]), (43, [5, 6, 7, 8, 9, 10, 11, 21, 23, 24, 25, 26]), (44, [5, 6, 7, 8, 9, 10, 11, 21, 23, 24, 25, 26]), (45, [5, 6, 7, 8, 9, 10, 11, 21, 23, 27, 28]), (46, [5, 6, 7, 8, 9, 10, 11, 21, 23, 27, 185]), (47, [4]), (48, [5, 6, 7, 8, 9, 10, 11, 21, 23, 27, 29]), (49, [5, 6, 7, 8, 9, 10, 11, 21, 23, 27, 29, 30]), (50, [5, 6, 7, 8, 9, 10, 11, 21, 23, 27, 29, 30, 189]), (51, [5, 6, 7, 8, 9, 10, 11, 21, 23, 27, 29, 30]), (52, [5, 6, 7, 8, 9, 10, 11, 21, 23, 27, 29, 30, 194]), (53, [5, 6, 7, 8, 9, 10, 11, 21, 23, 27, 29, 30]), (54, [5, 6, 7, 8, 9, 10, 11, 21, 23, 29, 31, 32]), (55, [5, 6, 7, 8, 9, 10, 11, 21, 23, 31, 212]), (56, [4]), (57, [5, 6, 7, 8, 9, 10, 11, 21, 23]), (58, [5, 6, 7, 8, 9, 10, 11, 21, 33]), (59, [5, 6, 7, 8, 9, 10, 11, 21, 33, 221]), (60, [5, 6, 7, 8, 9, 10, 11, 21, 33]), (61, [5, 6, 7, 8, 9, 10, 11, 21, 33, 241]), (62, [4]), (63, [5, 6, 7, 8, 9, 10, 11, 21, 33, 34, 35]), (64, [5, 6, 7, 8, 9, 10, 11, 21, 33, 35, 36, 37]), (65, [5, 6, 7, 8, 9, 10, 11, 21, 33, 265]), (66, [4]), (67, [4])], []⟩ := by kernel_rfl
-- loop.example/g01121/laws.FnShuffled
theorem fn18 : TT.fn 18 = some Try.f18 := by kernel_rfl
theorem md18 : (TT.an 18).mode = 1 := by kernel_rfl
theorem fi18 : FI.of Try.f18 (TT.an 18) = ⟨[.tmp 4], 228, [(0, [0, 1]), (1, [0, 1, 28]), (2, [4]), (3, [1, 5]), (4, [1, 5, 6]), (5, [1, 5, 6, 7, 8]), (6, [1, 5, 6, 7, 8, 9, 10]), (7, [1, 5, 6, 7, 8, 9, 10, 11, 12]), (8, [1, 5, 6, 7, 8, 9, 10, 11, 12, 13, 14]), (9, [1, 5, 6, 96]), (10, [4]), (11, [1, 5, 6, 15]), (12, [1, 5, 6, 15, 16]), (13, [1, 5, 6, 15, 16, 101]), (14, [1, 5, 6, 15, 16]), (15, [1, 5, 6, 15, 16]), (16, [5, 6, 17, 18]), (17, [5, 6, 18, 19, 20]), (18, [5, 6, 18, 19, 20, 21, 22]), (19, [5, 6, 21, 140]), (20, [4]), (21, [5, 6, 21, 23]), (22, [5, 6, 21, 23, 24]), (23, [5, 6, 21, 23, 24, 144]), (24, [5, 6, 21, 23, 24]), (25, [5, 6, 21, 23, 24, 25]), (26, [5, 6, 21, 23, 24, 25, 153]), (27, [5, 6, 21, 23, 24, 25]), (28, [5, 6, 21, 23, 24, 25, 217]), (29, [4]), (30, [5, 6, 21, 23, 24]), (31, [4])], []⟩ := by kernel_rfl
-- loop.example/g01121/laws.FnOrderCounts
theorem fn19 : TT.fn 19 = some Try.f19 := by kernel_rfl
theorem md19 : (TT.an 19).mode = 1 := by kernel_rfl
theorem fi19 : FI.of Try.f19 (TT.an 19) = ⟨[.tmp 4], 219, [(0, [0, 1]), (1, [0, 1, 36]), (2, [4]), (3, [1, 5]), (4, [1, 5, 6]), (5, [1, 5, 6, 7]), (6, [1, 5, 6, 7, 8]), (7, [1, 5, 6, 7, 8, 49]), (8, [1, 5, 6, 7, 8]), (9, [1, 5, 6, 7, 8, 9, 10]), (10, [1, 5, 6, 7, 8, 9, 10, 11, 12]), (11, [1, 5, 6, 7, 8, 10, 11, 12, 13, 14]), (12, [1, 5, 6, 7, 8, 11, 13, 92]), (13, [4]), (14, [1, 5, 6, 7, 8, 13]), (15, [1, 5, 6, 7, 8]), (16, [1, 5, 6, 7, 15]), (17, [1, 5, 6, 7, 15, 108]), (18, [1, 5, 6, 7, 15]), (19, [1, 5, 6, 7, 15, 16, 17]), (20, [1, 5, 6, 7, 15, 16, 17, 18, 19]), (21, [1, 5, 6, 7, 15, 144]), (22, [4]), (23, [20]), (24, [20, 21, 22]), (25, [20, 21, 161]), (26, [4]), (27, [20, 21, 23]), (28, [20, 21, 23, 24]), (29, [20, 21, 23, 24, 25]), (30, [20, 21, 23, 24, 25, 167]), (31, [20, 21, 23, 24, 25]), (32, [20, 21, 23, 24, 25]), (33, [20, 21, 23, 24, 26]), (34, [20, 21, 23, 24, 26, 175]), (35, [20, 21, 23, 24, 26]), (36, [20, 21, 23, 24, 26, 27]), (37, [20, 21, 23, 24, 26, 27, 28]), (38, [20, 21, 23, 24, 26, 27, 28, 29]), (39, [20, 21, 23, 24, 26, 27, 28, 29, 182]), (40, [20, 21, 23, 24, 26, 27, 28, 29]), (41, [20, 21, 23, 24, 26, 27, 28, 29]), (42, [20, 21, 23, 24, 26, 27, 28, 29]), (43, [20, 21, 23, 24, 26, 30, 31]), (44, [20, 21, 23, 24, 26, 31, 32, 33]), (45, [20, 21, 23, 24, 26, 32, 209]), (46, [4]), (47, [20, 21, 23, 24, 26]), (48, [4])], []⟩ := by kernel_rfl
-- loop.example/g01121/spec.ReservoirBy
theorem fn20 : TT.fn 20 = some Try.f20 := by kernel_rfl
theorem md20 : (TT.an 20).mode = 2 := by kernel_rfl
theorem fi20 : FI.of Try.f20 (TT.an 20) = ⟨[.tmp 4, .tmp 5], 49, [(0, [0, 1]), (1, [0, 1, 16]), (2, [4, 5]), (3, [0, 1, 6]), (4, [0, 1, 6, 7]), (5, [0, 1, 6, 7, 22]), (6, [0, 1, 6, 7]), (7, [0, 1, 6, 7, 8]), (8, [0, 1, 6, 7, 8, 34]), (9, [4, 5]), (10, [0, 1, 6, 7, 8, 40]), (11, [0, 1, 6, 7]), (12, [4, 5])], []⟩ := by kernel_rfl
-- loop.example/g01121/laws.toInt64S
theorem fn21 : TT.fn 21 = some Try.f21 := by kernel_rfl
theorem md21 : (TT.an 21).mode = 2 := by kernel_rfl
theorem fi21 : FI.of Try.f21 (TT.an 21) = ⟨[.tmp 2], 22, [(0, [0]), (1, [0, 3]), (2, [0, 3, 4]), (3, [0, 3, 4, 11]), (4, [0, 3, 4]), (5, [0, 3, 4]), (6, [2])], []⟩ := by kernel_rfl
-- loop.example/g01121/impl.ReservoirBy
theorem fn22 : TT.fn 22 = some Try.f22 := by kernel_rfl
theorem md22 : (TT.an 22).mode = 2 := by kernel_rfl
theorem fi22 : FI.of Try.f22 (TT.an 22) = ⟨[.tmp 4, .tmp 5], 43, [(0, [0, 1]), (1, [0, 1, 17]), (2, [4, 5]), (3, [0, 1, 6]), (4, [0, 6, 20, 21, 22]), (5, [0, 6, 20, 21, 22, 23]), (6, [0, 6, 7, 8, 20, 21, 22]), (7, [0, 6, 8, 9, 20, 21, 22]), (8, [0, 6, 8, 9, 20, 21, 22, 33]), (9, [4, 5]), (10, [0, 6, 8, 9, 20, 21, 22, 36]), (11, [0, 6, 20, 21, 22]), (12, [0, 6, 20, 21, 22]), (13, [4, 5])], []⟩ := by kernel_rfl
-- loop.example/g01121/laws.eqInt64S
theorem fn23 : TT.fn 23 = some Try.f23 := by kernel_rfl
theorem md23 : (TT.an 23).mode = 1 := by kernel_rfl
theorem fi23 : FI.of Try.f23 (TT.an 23) = ⟨[.tmp 4], 26, [(0, [0, 1]), (1, [0, 1, 10]), (2, [4]), (3, [0, 1, 5]), (4, [0, 1, 5, 14]), (5, [0, 1, 5]), (6, [0, 1, 5, 25]), (7, [4]), (8, [4])], []⟩ := by kernel_rfl
-- loop.example/g01121/laws.markInt64S
theorem fn24 : TT.fn 24 = some Try.f24 := by kernel_rfl
theorem md24 : (TT.an 24).mode = 0 := by kernel_rfl
theorem fi24 : FI.of Try.f24 (TT.an 24) = ⟨[.tmp 4], 19, [(0, [0, 1]), (1, [0, 1, 5]), (2, [0, 1, 5, 9]), (3, [0, 1, 5]), (4, [0, 1, 5]), (5, [0, 1, 5]), (6, [4])], []⟩ := by kernel_rfl
-- loop.example/g01121/laws.heldInt64S
theorem fn25 : TT.fn 25 = some Try.f25 := by kernel_rfl
theorem md25 : (TT.an 25).mode = 1 := by kernel_rfl
theorem fi25 : FI.of Try.f25 (TT.an 25) = ⟨[.tmp 4], 21, [(0, [0, 1]), (1, [0, 1, 5]), (2, [0, 1, 5, 9]), (3, [0, 1, 5]), (4, [0, 1, 5, 17]), (5, [4]), (6, [0, 1, 5]), (7, [4])], []⟩ := by kernel_rfl
-- loop.example/g01121/spec.CyclicBy
theorem fn26 : TT.fn 26 = some Try.f26 := by kernel_rfl
theorem md26 : (TT.an 26).mode = 2 := by kernel_rfl
theorem fi26 : FI.of Try.f26 (TT.an 26) = ⟨[.tmp 2, .tmp 3], 8, [(0, [0]), (1, [2, 3])], []⟩ := by kernel_rfl
-- loop.example/g01121/impl.CyclicBy
theorem fn27 : TT.fn 27 = some Try.f27 := by kernel_rfl
theorem md27 : (TT.an 27).mode = 2 := by kernel_rfl
theorem fi27 : FI.of Try.f27 (TT.an 27) = ⟨[.tmp 2, .tmp 3], 8, [(0, [0]), (1, [2, 3])], []⟩ := by kernel_rfl
-- loop.example/g01121/spec.ShuffleBy
theorem fn28 : TT.fn 28 = some Try.f28 := by kernel_rfl
theorem md28 : (TT.an 28).mode = 2 := by kernel_rfl
theorem fi28 : FI.of Try.f28 (TT.an 28) = ⟨[.tmp 2, .tmp 3], 8, [(0, [0]), (1, [2, 3])], []⟩ := by kernel_rfl
-- loop.example/g01121/impl.ShuffleBy
theorem fn29 : TT.fn 29 = some Try.f29 := by kernel_rfl
theorem md29 : (TT.an 29).mode = 2 := by kernel_rfl
theorem fi29 : FI.of Try.f29 (TT.an 29) = ⟨[.tmp 2, .tmp 3], 8, [(0, [0]), (1, [2, 3])], []⟩ := by kernel_rfl
-- loop.example/g01121/spec.OrderAt
theorem fn30 : TT.fn 30 = some Try.f30 := by kernel_rfl
theorem md30 : (TT.an 30).mode = 2 := by kernel_rfl
theorem fi30 : FI.of Try.f30 (TT.an 30) = ⟨[.tmp 4, .tmp 5], 20, [(0, [0, 1]), (1, [0, 1, 16]), (2, [4, 5]), (3, [4, 5])], []⟩ := by kernel_rfl
-- loop.example/g01121/impl.OrderAt
theorem fn31 : TT.fn 31 = some Try.f31 := by kernel_rfl
theorem md31 : (TT.an 31).mode = 2 := by kernel_rfl
theorem fi31 : FI.of Try.f31 (TT.an 31) = ⟨[.tmp 4, .tmp 5], 50, [(0, [0, 1]), (1, [0, 1, 20]), (2, [4, 5]), (3, [1, 6, 7]), (4, [1, 6, 7, 26]), (5, [1, 6, 7, 8]), (6, [1, 6, 7, 8, 9]), (7, [1, 6, 7, 9]), (8, [1, 6, 7, 9]), (9, [1, 6, 7]), (10, [4, 5])], []⟩ := by kernel_rfl
-- loop.example/g01121/spec.NaiveBy
theorem fn32 : TT.fn 32 = some Try.f32 := by kernel_rfl
theorem md32 : (TT.an 32).mode = 2 := by kernel_rfl
theorem fi32 : FI.of Try.f32 (TT.an 32) = ⟨[.tmp 2, .tmp 3], 27, [(0, [0]), (1, [0, 4]), (2, [0, 4, 10]), (3, [2, 3]), (4, [0, 4, 5]), (5, [0, 4, 5, 14]), (6, [0, 4, 5]), (7, [0, 4, 5, 24]), (8, [2, 3]), (9, [2, 3])], []⟩ := by kernel_rfl
-- loop.example/g01121/impl.NaiveBy
theorem fn33 : TT.fn 33 = some Try.f33 := by kernel_rfl
theorem md33 : (TT.an 33).mode = 2 := by kernel_rfl
theorem fi33 : FI.of Try.f33 (TT.an 33) = ⟨[.tmp 2, .tmp 3], 19, [(0, [0]), (1, [0, 4]), (2, [0, 16]), (3, [2, 3]), (4, [2, 3])], []⟩ := by kernel_rfl
-- loop.example/g01121/spec.NaiveCounts
theorem fn34 : TT.fn 34 = some Try.f34 := by kernel_rfl
theorem md34 : (TT.an 34).mode = 2 := by kernel_rfl
theorem fi34 : FI.of Try.f34 (TT.an 34) = ⟨[.tmp 2, .tmp 3], 50, [(0, [0]), (1, [0, 9]), (2, [2, 3]), (3, [0, 4]), (4, [0, 4, 5]), (5, [0, 4, 5]), (6, [0, 4, 5, 6]), (7, [0, 4, 5, 6, 35]), (8, [0, 4, 5, 6]), (9, [0, 4, 5, 6]), (10, [0, 4, 5, 6, 42]), (11, [2, 3]), (12, [0, 4, 5])], []⟩ := by kernel_rfl
-- loop.example/g01121/impl.NaiveCounts
theorem fn35 : TT.fn 35 = some Try.f35 := by kernel_rfl
theorem md35 : (TT.an 35).mode = 2 := by kernel_rfl
theorem fi35 : FI.of Try.f35 (TT.an 35) = ⟨[.tmp 2, .tmp 3], 50, [(0, [0]), (1, [0, 9]), (2, [2, 3]), (3, [0, 4, 5]), (4, [0, 4, 5]), (5, [0, 4, 5, 6]), (6, [0, 4, 5, 6, 35]), (7, [0, 4, 5, 6]), (8, [0, 4, 5, 6]), (9, [0, 4, 5, 6, 42]), (10, [2, 3]), (11, [0, 4, 5])], [(3, [(1000000, 0), (1000001, 5), (1000001, 6), (1000002, 5)])]⟩ := by kernel_rfl
-- loop.example/g01121/spec.SetAt
theorem fn36 : TT.fn 36 = some Try.f36 := by kernel_rfl
theorem md36 : (TT.an 36).mode = 2 := by kernel_rfl
theorem fi36 : FI.of Try.f36 (TT.an 36) = ⟨[.tmp 6, .tmp 7], 56, [(0, [0, 1, 2]), (1, [0, 1, 2, 29]), (2, [6, 7]), (3, [0, 1, 2, 8]), (4, [0, 1, 2, 8, 9]), (5, [0, 2, 8, 9, 10]), (6, [0, 2, 8, 9, 10, 33]), (7, [0, 2, 8, 9, 10]), (8, [0, 2, 8, 9, 10, 11]), (9, [0, 2, 8, 9, 10, 11, 45]), (10, [0, 2, 8, 9, 10]), (11, [0, 2, 8, 9, 10]), (12, [0, 2, 8, 9, 10]), (13, [6, 7])], []⟩ := by kernel_rfl
-- loop.example/g01121/impl.SetAt
theorem fn37 : TT.fn 37 = some Try.f37 := by kernel_rfl
theorem md37 : (TT.an 37).mode = 2 := by kernel_rfl
theorem fi37 : FI.of Try.f37 (TT.an 37) = ⟨[.tmp 6, .tmp 7], 57, [(0, [0, 1, 2]), (1, [0, 1, 2, 28]), (2, [6, 7]), (3, [0, 1, 2, 8]), (4, [0, 1, 2, 8, 9]), (5, [0, 1, 2, 8, 9, 33]), (6, [0, 1, 2, 8, 9]), (7, [0, 1, 2, 8, 9, 10]), (8, [0, 1, 2, 8, 9, 10, 48]), (9, [0, 1, 2, 8, 9]), (10, [0, 1, 2, 8, 9]), (11, [6, 7])], []⟩ := by kernel_rfl
-- loop.example/g01121/spec.RankSet
theorem fn38 : TT.fn 38 = some Try.f38 := by kernel_rfl
theorem md38 : (TT.an 38).mode = 1 := by kernel_rfl
theorem fi38 : FI.of Try.f38 (TT.an 38) = ⟨[.tmp 4, .tmp 5], 54, [(0, [0, 1]), (1, [0, 1, 20]), (2, [4, 5]), (3, [0, 1, 6]), (4, [0, 1, 6, 7]), (5, [0, 1, 6, 7, 8]), (6, [0, 1, 6, 7, 8, 9]), (7, [0, 1, 6, 7, 8, 9, 25]), (8, [0, 1, 6, 7, 8, 9]), (9, [0, 1, 6, 7, 9, 10]), (10, [0, 1, 6, 7, 9, 10, 34]), (11, [0, 1, 6, 7, 9, 10]), (12, [0, 1, 6, 7, 9, 10]), (13, [0, 1, 6, 7, 8, 9]), (14, [4, 5])], []⟩ := by kernel_rfl
-- loop.example/g01121/impl.RankSet
theorem fn39 : TT.fn 39 = some Try.f39 := by kernel_rfl
theorem md39 : (TT.an 39).mode = 1 := by kernel_rfl
theorem fi39 : FI.of Try.f39 (TT.an 39) = ⟨[.tmp 4, .tmp 5], 53, [(0, [0, 1]), (1, [0, 1, 24]), (2, [4, 5]), (3, [0, 1, 6, 7]), (4, [0, 1, 6, 7, 25, 26, 27]), (5, [0, 1, 6, 7, 25, 26, 27, 28]), (6, [0, 1, 6, 7, 8, 9, 25, 26, 27]), (7, [0, 1, 6, 7, 8, 9, 25, 26, 27, 34]), (8, [0, 1, 6, 7, 8, 9, 25, 26, 27]), (9, [0, 1, 6, 7, 8, 9, 25, 26, 27]), (10, [0, 1, 6, 7, 25, 26, 27]), (11, [0, 1, 6, 7, 25, 26, 27]), (12, [4, 5])], []⟩ := by kernel_rfl
-- loop.example/g01121/spec.IsOrder
theorem fn40 : TT.fn 40 = some Try.f40 := by kernel_rfl
theorem md40 : (TT.an 40).mode = 1 := by kernel_rfl
theorem fi40 : FI.of Try.f40 (TT.an 40) = ⟨[.tmp 2], 5, [(0, [0]), (1, [2])], []⟩ := by kernel_rfl
-- loop.example/g01121/impl.IsOrder
theorem fn41 : TT.fn 41 = some Try.f41 := by kernel_rfl
theorem md41 : (TT.an 41).mode = 1 := by kernel_rfl
theorem fi41 : FI.of Try.f41 (TT.an 41) = ⟨[.tmp 2], 20, [(0, [0]), (1, [0, 3]), (2, [0, 15]), (3, [2]), (4, [2])], []⟩ := by kernel_rfl
-- loop.example/g01121/spec.SampleBy
theorem fn42 : TT.fn 42 = some Try.f42 := by kernel_rfl
theorem md42 : (TT.an 42).mode = 2 := by kernel_rfl
theorem fi42 : FI.of Try.f42 (TT.an 42) = ⟨[.tmp 4, .tmp 5], 48, [(0, [0, 1]), (1, [0, 1, 6]), (2, [0, 1, 6, 20]), (3, [4, 5]), (4, [0, 1, 6, 7]), (5, [0, 1, 6, 7, 8]), (6, [0, 1, 6, 7, 8, 24]), (7, [0, 1, 6, 7, 8]), (8, [0, 1, 6, 7, 8, 9]), (9, [0, 1, 6, 7, 8, 9, 10]), (10, [0, 1, 6, 7, 8, 9, 10, 39]), (11, [4, 5]), (12, [0, 1, 6, 7, 8, 9, 10, 42]), (13, [0, 1, 6, 7, 8, 10]), (14, [0, 1, 6, 7, 8]), (15, [4, 5])], []⟩ := by kernel_rfl
-- loop.example/g01121/impl.SampleBy
theorem fn43 : TT.fn 43 = some Try.f43 := by kernel_rfl
theorem md43 : (TT.an 43).mode = 2 := by kernel_rfl
theorem fi43 : FI.of Try.f43 (TT.an 43) = ⟨[.tmp 4, .tmp 5], 50, [(0, [0, 1]), (1, [0, 1, 6]), (2, [0, 1, 6, 20]), (3, [4, 5]), (4, [0, 1, 6, 7]), (5, [0, 6, 7, 22, 23, 24]), (6, [0, 6, 7, 22, 23, 24, 25]), (7, [0, 6, 7, 8, 9, 22, 23, 24]), (8, [0, 6, 7, 9, 10, 22, 23, 24]), (9, [0, 6, 7, 9, 10, 22, 23, 24, 37]), (10, [4, 5]), (11, [0, 6, 7, 9, 10, 22, 23, 24, 40]), (12, [0, 6, 7, 9, 22, 23, 24]), (13, [0, 6, 7, 22, 23, 24]), (14, [0, 6, 7, 22, 23, 24]), (15, [7]), (16, [4, 5])], []⟩ := by kernel_rfl
-- loop.example/g01121/spec.RisingOf
theorem fn44 : TT.fn 44 = some Try.f44 := by kernel_rfl
theorem md44 : (TT.an 44).mode = 1 := by kernel_rfl
theorem fi44 : FI.of Try.f44 (TT.an 44) = ⟨[.tmp 2, .tmp 3], 9, [(0, [0]), (1, [0, 6]), (2, [2, 3]), (3, [2, 3])], []⟩ := by kernel_rfl
-- loop.example/g01121/impl.RisingOf
theorem fn45 : TT.fn 45 = some Try.f45 := by kernel_rfl
theorem md45 : (TT.an 45).mode = 1 := by kernel_rfl
theorem fi45 : FI.of Try.f45 (TT.an 45) = ⟨[.tmp 2, .tmp 3], 9, [(0, [0]), (1, [0, 6]), (2, [2, 3]), (3, [2, 3])], []⟩ := by kernel_rfl
-- loop.example/g01121/spec.RankOrder
theorem fn46 : TT.fn 46 = some Try.f46 := by kernel_rfl
theorem md46 : (TT.an 46).mode = 1 := by kernel_rfl
theorem fi46 : FI.of Try.f46 (TT.an 46) = ⟨[.tmp 2, .tmp 3], 9, [(0, [0]), (1, [0, 6]), (2, [2, 3]), (3, [2, 3])], []⟩ := by kernel_rfl
-- loop.example/g01121/impl.RankOrder
theorem fn47 : TT.fn 47 = some Try.f47 := by kernel_rfl
theorem md47 : (TT.an 47).mode = 1 := by kernel_rfl
theorem fi47 : FI.of Try.f47 (TT.an 47) = ⟨[.tmp 2, .tmp 3], 9, [(0, [0]), (1, [0, 6]), (2, [2, 3]), (3, [2, 3])], []⟩ := by kernel_rfl
-- loop.example/g01121/spec.ChoicesOf
theorem fn48 : TT.fn 48 = some Try.f48 := by kernel_rfl
theorem md48 : (TT.an 48).mode = 2 := by kernel_rfl
theorem fi48 : FI.of Try.f48 (TT.an 48) = ⟨[.tmp 2, .tmp 3], 42, [(0, [0]), (1, [0, 10]), (2, [2, 3]), (3, [0, 4]), (4, [0, 4, 5]), (5, [0, 4, 5, 6]), (6, [0, 4, 5, 6, 19]), (7, [0, 4, 5, 6]), (8, [0, 4, 5, 6, 7]), (9, [0, 4, 5, 6, 7, 30]), (10, [0, 4, 5, 6, 7]), (11, [0, 4, 5, 6, 7]), (12, [0, 4, 5, 6]), (13, [2, 3])], []⟩ := by kernel_rfl
-- loop.example/g01121/impl.ChoicesOf
theorem fn49 : TT.fn 49 = some Try.f49 := by kernel_rfl
theorem md49 : (TT.an 49).mode = 2 := by kernel_rfl
theorem fi49 : FI.of Try.f49 (TT.an 49) = ⟨[.tmp 2, .tmp 3], 47, [(0, [0]), (1, [0, 10]), (2, [2, 3]), (3, [0, 4, 5]), (4, [0, 4, 5, 6]), (5, [0, 4, 5, 6, 19]), (6, [0, 4, 5, 6]), (7, [0, 4, 5, 6, 7]), (8, [0, 4, 5, 6, 7]), (9, [0, 4, 5, 6]), (10, [2, 3])], []⟩ := by kernel_rfl
-- loop.example/g01121/spec.CyclesOf
theorem fn50 : TT.fn 50 = some Try.f50 := by kernel_rfl
theorem md50 : (TT.an 50).mode = 2 := by kernel_rfl
theorem fi50 : FI.of Try.f50 (TT.an 50) = ⟨[.tmp 2, .tmp 3], 49, [(0, [0]), (1, [0, 11]), (2, [2, 3]), (3, [0, 4]), (4, [0, 4, 5]), (5, [0, 4, 5, 6]), (6, [0, 4, 5, 6, 19]), (7, [0, 4, 5, 6]), (8, [0, 4, 5, 6, 25]), (9, [0, 4, 5, 6, 7]), (10, [0, 4, 5, 6, 7, 8]), (11, [0, 4, 5, 6, 7, 8, 32]), (12, [0, 4, 5, 6, 7, 8]), (13, [0, 4, 5, 6, 7, 8]), (14, [0, 4, 5, 6, 7, 8]), (15, [0, 4, 5, 6]), (16, [2, 3])], []⟩ := by kernel_rfl
-- loop.example/g01121/impl.CyclesOf
theorem fn51 : TT.fn 51 = some Try.f51 := by kernel_rfl
theorem md51 : (TT.an 51).mode = 2 := by kernel_rfl
theorem fi51 : FI.of Try.f51 (TT.an 51) = ⟨[.tmp 2, .tmp 3], 48, [(0, [0]), (1, [0, 11]), (2, [2, 3]), (3, [0, 4, 5]), (4, [0, 4, 5, 17, 18]), (5, [0, 4, 5, 17, 18, 19]), (6, [0, 4, 5, 6, 17, 18]), (7, [0, 4, 5, 6, 7, 17, 18]), (8, [0, 4, 5, 7, 8, 17, 18]), (9, [0, 4, 5, 7, 8, 17, 18, 27]), (10, [0, 4, 5, 7, 8, 17, 18]), (11, [0, 4, 5, 7, 8, 17, 18]), (12, [0, 4, 5, 7, 8, 17, 18]), (13, [0, 4, 5, 7, 17, 18, 41]), (14, [0, 4, 5, 17, 18]), (15, [0, 4, 5, 17, 18]), (16, [2, 3])], [(3, [(1000000, 0), (1000001, 4), (1000001, 5), (1000002, 4)])]⟩ := by kernel_rfl
-- loop.example/g01121/laws.eqInt64SS
theorem fn52 : TT.fn 52 = some Try.f52 := by kernel_rfl
theorem md52 : (TT.an 52).mode = 1 := by kernel_rfl
theorem fi52 : FI.of Try.f52 (TT.an 52) = ⟨[.tmp 4], 27, [(0, [0, 1]), (1, [0, 1, 10]), (2, [4]), (3, [0, 1, 5]), (4, [0, 1, 5, 14]), (5, [0, 1, 5]), (6, [0, 1, 5, 26]), (7, [4]), (8, [4])], []⟩ := by kernel_rfl
-- loop.example/g01121/laws.markInt64SS
theorem fn53 : TT.fn 53 = some Try.f53 := by kernel_rfl
theorem md53 : (TT.an 53).mode = 0 := by kernel_rfl
theorem fi53 : FI.of Try.f53 (TT.an 53) = ⟨[.tmp 4], 19, [(0, [0, 1]), (1, [0, 1, 5]), (2, [0, 1, 5, 9]), (3, [0, 1, 5]), (4, [0, 1, 5]), (5, [4])], []⟩ := by kernel_rfl
-- loop.example/g01121/laws.heldInt64SS
theorem fn54 : TT.fn 54 = some Try.f54 := by kernel_rfl
theorem md54 : (TT.an 54).mode = 1 := by kernel_rfl
theorem fi54 : FI.of Try.f54 (TT.an 54) = ⟨[.tmp 4], 21, [(0, [0, 1]), (1, [0, 1, 5]), (2, [0, 1, 5, 9]), (3, [0, 1, 5]), (4, [0, 1, 5]), (5, [0, 1, 5, 19]), (6, [4]), (7, [4])], []⟩ := by kernel_rfl
-- loop.example/g01121/laws.b10Long
theorem fn55 : TT.fn 55 = some Try.f55 := by kernel_rfl
theorem md55 : (TT.an 55).mode = 1 := by kernel_rfl
theorem fi55 : FI.of Try.f55 (TT.an 55) = ⟨[.tmp 4], 13, [(0, [0, 1]), (1, [4])], []⟩ := by kernel_rfl
-- loop.example/g01121/laws.b10At
theorem fn56 : TT.fn 56 = some Try.f56 := by kernel_rfl
theorem md56 : (TT.an 56).mode = 1 := by kernel_rfl
theorem fi56 : FI.of Try.f56 (TT.an 56) = ⟨[.tmp 6], 25, [(0, [0, 1, 2]), (1, [0, 1, 2, 8]), (2, [6]), (3, [0, 1, 2, 12]), (4, [6]), (5, [6])], []⟩ := by kernel_rfl
-- loop.example/g01121/spec.BinomialOf
theorem fn57 : TT.fn 57 = some Try.f57 := by kernel_rfl
theorem md57 : (TT.an 57).mode = 1 := by kernel_rfl
theorem fi57 : FI.of Try.f57 (TT.an 57) = ⟨[.tmp 4, .tmp 5], 18, [(0, [0, 1]), (1, [0, 1, 14]), (2, [4, 5]), (3, [4, 5])], []⟩ := by kernel_rfl
-- loop.example/g01121/laws.b10Has
theorem fn58 : TT.fn 58 = some Try.f58 := by kernel_rfl
theorem md58 : (TT.an 58).mode = 1 := by kernel_rfl
theorem fi58 : FI.of Try.f58 (TT.an 58) = ⟨[.tmp 4], 18, [(0, [0, 1]), (1, [0, 1, 5]), (2, [0, 1, 5, 9]), (3, [0, 1, 5]), (4, [0, 1, 5, 17]), (5, [4]), (6, [4])], []⟩ := by kernel_rfl
-- loop.example/g01121/spec.B10Order
theorem fn59 : TT.fn 59 = some Try.f59 := by kernel_rfl
theorem md59 : (TT.an 59).mode = 2 := by kernel_rfl
theorem fi59 : FI.of Try.f59 (TT.an 59) = ⟨[.tmp 2], 16, [(0, [0]), (1, [3]), (2, [3, 4]), (3, [2])], []⟩ := by kernel_rfl
-- loop.example/g01121/laws.b10Nums
theorem fn60 : TT.fn 60 = some Try.f60 := by kernel_rfl
theorem md60 : (TT.an 60).mode = 1 := by kernel_rfl
theorem fi60 : FI.of Try.f60 (TT.an 60) = ⟨[.tmp 4], 26, [(0, [0, 1]), (1, [0, 1, 10]), (2, [4]), (3, [0, 1, 5]), (4, [0, 1, 5, 14]), (5, [0, 1, 5]), (6, [0, 1, 5, 25]), (7, [4]), (8, [4])], []⟩ := by kernel_rfl
-- loop.example/g01121/laws.b10All
theorem fn61 : TT.fn 61 = some Try.f61 := by kernel_rfl
theorem md61 : (TT.an 61).mode = 1 := by kernel_rfl
theorem fi61 : FI.of Try.f61 (TT.an 61) = ⟨[.tmp 2], 14, [(0, [0]), (1, [0, 3]), (2, [0, 3, 4]), (3, [0, 3, 4, 7]), (4, [0, 3, 4]), (5, [0, 3, 4]), (6, [2])], []⟩ := by kernel_rfl
-- loop.example/g01121/impl.CountCycles
theorem fn62 : TT.fn 62 = some Try.f62 := by kernel_rfl
theorem md62 : (TT.an 62).mode = 1 := by kernel_rfl
theorem fi62 : FI.of Try.f62 (TT.an 62) = ⟨[.tmp 4, .tmp 5], 63, [(0, [0, 1]), (1, [0, 1, 18]), (2, [4, 5]), (3, [0, 1, 6]), (4, [0, 1, 6]), (5, [1, 6, 22, 23]), (6, [1, 6, 22, 23, 24]), (7, [1, 6, 7, 22, 23]), (8, [1, 6, 7, 8, 22, 23]), (9, [1, 6, 7, 8, 22, 23, 27, 28, 29]), (10, [1, 6, 7, 8, 22, 23, 27, 28, 29, 30]), (11, [1, 6, 7, 8, 9, 10, 22, 23, 27, 28, 29]), (12, [1, 6, 7, 8, 9, 22, 23, 27, 28, 29]), (13, [1, 6, 7, 8, 9, 22, 23, 27, 28, 29, 44]), (14, [1, 6, 7, 8, 22, 23, 27, 28, 29]), (15, [1, 6, 7, 8, 22, 23, 27, 28, 29]), (16, [1, 6, 22, 23]), (17, [1, 6, 22, 23]), (18, [4, 5])], []⟩ := by kernel_rfl
-- loop.example/g01121/impl.CountRising
theorem fn63 : TT.fn 63 = some Try.f63 := by kernel_rfl
theorem md63 : (TT.an 63).mode = 1 := by kernel_rfl
theorem fi63 : FI.of Try.f63 (TT.an 63) = ⟨[.tmp 4, .tmp 5], 19, [(0, [0, 1]), (1, [0, 1, 13]), (2, [4, 5]), (3, [4, 5])], []⟩ := by kernel_rfl
-- loop.example/g01121/spec.l07Many
theorem fn64 : TT.fn 64 = some Try.f64 := by kernel_rfl
theorem md64 : (TT.an 64).mode = 1 := by kernel_rfl
theorem fi64 : FI.of Try.f64 (TT.an 64) = ⟨[.tmp 2], 5, [(0, [0]), (1, [2])], []⟩ := by kernel_rfl
-- loop.example/g01121/spec.l07First
theorem fn65 : TT.fn 65 = some Try.f65 := by kernel_rfl
theorem md65 : (TT.an 65).mode = 2 := by kernel_rfl
theorem fi65 : FI.of Try.f65 (TT.an 65) = ⟨[.tmp 2], 16, [(0, [0]), (1, [0, 3]), (2, [0, 3, 4]), (3, [0, 3, 4, 8]), (4, [0, 3, 4]), (5, [0, 3, 4]), (6, [2])], []⟩ := by kernel_rfl
-- loop.example/g01121/spec.l00In
theorem fn66 : TT.fn 66 = some Try.f66 := by kernel_rfl
theorem md66 : (TT.an 66).mode = 1 := by kernel_rfl
theorem fi66 : FI.of Try.f66 (TT.an 66) = ⟨[.tmp 6], 15, [(0, [0, 1, 2]), (1, [6])], []⟩ := by kernel_rfl
-- loop.example/g01121/impl.isCards
theorem fn67 : TT.fn 67 = some Try.f67 := by kernel_rfl
theorem md67 : (TT.an 67).mode = 1 := by kernel_rfl
theorem fi67 : FI.of Try.f67 (TT.an 67) = ⟨[.tmp 2], 5, [(0, [0]), (1, [2])], []⟩ := by kernel_rfl
-- loop.example/g01121/impl.ascending
theorem fn68 : TT.fn 68 = some Try.f68 := by kernel_rfl
theorem md68 : (TT.an 68).mode = 2 := by kernel_rfl
theorem fi68 : FI.of Try.f68 (TT.an 68) = ⟨[.tmp 2], 16, [(0, [0]), (1, [0, 3]), (2, [3, 6, 7]), (3, [3, 6, 7, 8]), (4, [3, 4, 6, 7]), (5, [3, 6, 7]), (6, [3, 6, 7]), (7, [2])], []⟩ := by kernel_rfl
-- loop.example/g01121/impl.inRange
theorem fn69 : TT.fn 69 = some Try.f69 := by kernel_rfl
theorem md69 : (TT.an 69).mode = 1 := by kernel_rfl
theorem fi69 : FI.of Try.f69 (TT.an 69) = ⟨[.tmp 6], 15, [(0, [0, 1, 2]), (1, [6])], []⟩ := by kernel_rfl
-- loop.example/g01121/spec.l07Shuffle
theorem fn70 : TT.fn 70 = some Try.f70 := by kernel_rfl
theorem md70 : (TT.an 70).mode = 2 := by kernel_rfl
theorem fi70 : FI.of Try.f70 (TT.an 70) = ⟨[.tmp 4, .tmp 5], 41, [(0, [0, 1]), (1, [0, 1, 6]), (2, [0, 1, 6, 14]), (3, [4, 5]), (4, [0, 1, 6, 7]), (5, [0, 1, 6, 7, 8]), (6, [0, 1, 6, 7, 8, 20]), (7, [0, 1, 6, 7, 8]), (8, [0, 1, 6, 7, 8, 9]), (9, [0, 1, 6, 7, 8, 9, 35]), (10, [4, 5]), (11, [0, 1, 6, 7, 8]), (12, [4, 5])], []⟩ := by kernel_rfl
-- loop.example/g01121/impl.shuffleBy
theorem fn71 : TT.fn 71 = some Try.f71 := by kernel_rfl
theorem md71 : (TT.an 71).mode = 2 := by kernel_rfl
theorem fi71 : FI.of Try.f71 (TT.an 71) = ⟨[.tmp 4, .tmp 5], 52, [(0, [0, 1]), (1, [0, 1, 6]), (2, [0, 1, 6, 16]), (3, [4, 5]), (4, [0, 1, 6, 7]), (5, [1, 6, 7, 19, 20, 21]), (6, [1, 6, 7, 19, 20, 21, 22]), (7, [1, 6, 7, 8, 9, 19, 20, 21]), (8, [1, 6, 7, 9, 10, 19, 20, 21]), (9, [1, 6, 7, 9, 10, 19, 20, 21, 35]), (10, [4, 5]), (11, [1, 6, 7, 19, 20, 21]), (12, [1, 6, 7, 19, 20, 21]), (13, [4, 5])], []⟩ := by kernel_rfl
-- loop.example/g01121/spec.l07All
theorem fn72 : TT.fn 72 = some Try.f72 := by kernel_rfl
theorem md72 : (TT.an 72).mode = 1 := by kernel_rfl
theorem fi72 : FI.of Try.f72 (TT.an 72) = ⟨[.tmp 2], 14, [(0, [0]), (1, [0, 3]), (2, [0, 3, 4]), (3, [0, 3, 4, 7]), (4, [0, 3, 4]), (5, [0, 3, 4]), (6, [2])], []⟩ := by kernel_rfl
-- loop.example/g01121/spec.l07At
theorem fn73 : TT.fn 73 = some Try.f73 := by kernel_rfl
theorem md73 : (TT.an 73).mode = 2 := by kernel_rfl
theorem fi73 : FI.of Try.f73 (TT.an 73) = ⟨[.tmp 4], 46, [(0, [0, 1]), (1, [0, 1, 5]), (2, [0, 1, 5, 6]), (3, [1, 5, 6, 7]), (4, [1, 5, 6, 7, 16]), (5, [1, 5, 6, 7]), (6, [1, 5, 6, 7, 8]), (7, [1, 5, 6, 7, 8]), (8, [1, 5, 6, 7, 8]), (9, [1, 5, 6, 7, 8, 9]), (10, [1, 5, 6, 7]), (11, [4])], []⟩ := by kernel_rfl
-- loop.example/g01121/impl.factorial
theorem fn74 : TT.fn 74 = some Try.f74 := by kernel_rfl
theorem md74 : (TT.an 74).mode = 1 := by kernel_rfl
theorem fi74 : FI.of Try.f74 (TT.an 74) = ⟨[.tmp 2], 14, [(0, [0]), (1, [0, 3]), (2, [0, 3, 4]), (3, [0, 3, 4, 7]), (4, [0, 3, 4]), (5, [0, 3, 4]), (6, [2])], []⟩ := by kernel_rfl
-- loop.example/g01121/impl.length[int64]
theorem fn75 : TT.fn 75 = some Try.f75 := by kernel_rfl
theorem md75 : (TT.an 75).mode = 1 := by kernel_rfl
theorem fi75 : FI.of Try.f75 (TT.an 75) = ⟨[.tmp 2], 5, [(0, [0]), (1, [2])], []⟩ := by kernel_rfl
-- slices.Delete[[]int64,int64]
theorem fn76 : TT.fn 76 = some Try.f76 := by kernel_rfl
theorem md76 : (TT.an 76).mode = 0 := by kernel_rfl
theorem fi76 : FI.of Try.f76 (TT.an 76) = ⟨[.tmp 6], 33, [(0, [0, 1, 2]), (1, [0, 1, 2]), (2, [0, 1, 2, 16]), (3, [6]), (4, [0, 1, 2, 7]), (5, [0, 7]), (6, [0]), (7, [6])], []⟩ := by kernel_rfl
-- loop.example/g01121/spec.l07Naive
theorem fn77 : TT.fn 77 = some Try.f77 := by kernel_rfl
theorem md77 : (TT.an 77).mode = 2 := by kernel_rfl
theorem fi77 : FI.of Try.f77 (TT.an 77) = ⟨[.tmp 2], 22, [(0, [0]), (1, [0, 3]), (2, [0, 3, 4]), (3, [0, 3, 4, 11]), (4, [0, 3, 4]), (5, [0, 3, 4]), (6, [2])], []⟩ := by kernel_rfl
-- loop.example/g01121/impl.allIn
theorem fn78 : TT.fn 78 = some Try.f78 := by kernel_rfl
theorem md78 : (TT.an 78).mode = 1 := by kernel_rfl
theorem fi78 : FI.of Try.f78 (TT.an 78) = ⟨[.tmp 6], 11, [(0, [0, 4, 5]), (1, [6])], []⟩ := by kernel_rfl
-- loop.example/g01121/impl.naiveBy
theorem fn79 : TT.fn 79 = some Try.f79 := by kernel_rfl
theorem md79 : (TT.an 79).mode = 2 := by kernel_rfl
theorem fi79 : FI.of Try.f79 (TT.an 79) = ⟨[.tmp 2], 32, [(0, [0]), (1, [0, 3]), (2, [3, 9, 10, 11]), (3, [3, 9, 10, 11, 12]), (4, [3, 4, 5, 9, 10, 11]), (5, [3, 9, 10, 11]), (6, [3, 9, 10, 11]), (7, [2])], []⟩ := by kernel_rfl
-- loop.example/g01121/spec.l07Rank
theorem fn80 : TT.fn 80 = some Try.f80 := by kernel_rfl
theorem md80 : (TT.an 80).mode = 1 := by kernel_rfl
theorem fi80 : FI.of Try.f80 (TT.an 80) = ⟨[.tmp 2], 43, [(0, [0]), (1, [0, 3]), (2, [0, 3, 4]), (3, [0, 3, 4, 5]), (4, [0, 3, 4, 5, 12]), (5, [0, 3, 4, 5]), (6, [0, 3, 4, 5, 6]), (7, [0, 3, 4, 5, 6, 7]), (8, [0, 3, 4, 5, 6, 7, 19]), (9, [0, 3, 4, 5, 6, 7]), (10, [0, 3, 4, 5, 6, 7, 30]), (11, [0, 3, 4, 5, 6, 7]), (12, [0, 3, 4, 5]), (13, [2])], []⟩ := by kernel_rfl
-- loop.example/g01121/impl.rankOrder
theorem fn81 : TT.fn 81 = some Try.f81 := by kernel_rfl
theorem md81 : (TT.an 81).mode = 1 := by kernel_rfl
theorem fi81 : FI.of Try.f81 (TT.an 81) = ⟨[.tmp 2], 38, [(0, [0]), (1, [0, 3]), (2, [0, 3, 8, 9, 10]), (3, [0, 3, 8, 9, 10, 11]), (4, [0, 3, 4, 5, 8, 9, 10]), (5, [0, 3, 4, 5, 8, 9, 10, 18, 19, 20]), (6, [0, 3, 4, 5, 8, 9, 10, 18, 19, 20, 21]), (7, [0, 3, 4, 5, 7, 8, 9, 10, 18, 19, 20]), (8, [0, 3, 4, 5, 8, 9, 10, 18, 19, 20, 26]), (9, [0, 3, 4, 5, 8, 9, 10, 18, 19, 20]), (10, [0, 3, 4, 5, 8, 9, 10, 18, 19, 20]), (11, [0, 3, 8, 9, 10]), (12, [2])], []⟩ := by kernel_rfl
-- loop.example/g01121/spec.l07Below
theorem fn82 : TT.fn 82 = some Try.f82 := by kernel_rfl
theorem md82 : (TT.an 82).mode = 1 := by kernel_rfl
theorem fi82 : FI.of Try.f82 (TT.an 82) = ⟨[.tmp 2], 5, [(0, [0]), (1, [2])], []⟩ := by kernel_rfl
-- loop.example/g01121/spec.l01Choose
theorem fn83 : TT.fn 83 = some Try.f83 := by kernel_rfl
theorem md83 : (TT.an 83).mode = 1 := by kernel_rfl
theorem fi83 : FI.of Try.f83 (TT.an 83) = ⟨[.tmp 4], 42, [(0, [0, 1]), (1, [0, 1, 5]), (2, [0, 1, 5, 6]), (3, [0, 1, 5, 6, 12]), (4, [0, 1, 5, 6]), (5, [0, 1, 5, 6, 7]), (6, [0, 1, 5, 6, 7, 8]), (7, [0, 1, 5, 6, 7, 8, 19]), (8, [0, 1, 5, 6, 7, 8]), (9, [0, 1, 5, 6, 7, 8]), (10, [0, 1, 5, 6]), (11, [4])], []⟩ := by kernel_rfl
-- loop.example/g01121/impl.choose
theorem fn84 : TT.fn 84 = some Try.f84 := by kernel_rfl
theorem md84 : (TT.an 84).mode = 1 := by kernel_rfl
theorem fi84 : FI.of Try.f84 (TT.an 84) = ⟨[.tmp 4], 46, [(0, [0, 1]), (1, [0, 1, 14]), (2, [4]), (3, [0, 1, 5]), (4, [0, 1, 5, 6]), (5, [0, 1, 5, 6, 21]), (6, [0, 1, 5, 6]), (7, [0, 1, 6, 7, 8]), (8, [0, 1, 6, 9]), (9, [0, 1, 5, 6]), (10, [4])], []⟩ := by kernel_rfl
-- loop.example/g01121/spec.l00Rises
theorem fn85 : TT.fn 85 = some Try.f85 := by kernel_rfl
theorem md85 : (TT.an 85).mode = 1 := by kernel_rfl
theorem fi85 : FI.of Try.f85 (TT.an 85) = ⟨[.tmp 6], 38, [(0, [0, 1, 2]), (1, [0, 1, 2, 7]), (2, [0, 1, 2, 7, 11]), (3, [0, 1, 2, 7]), (4, [0, 1, 2, 7, 37]), (5, [6]), (6, [6])], []⟩ := by kernel_rfl
-- loop.example/g01121/impl.isIncreasing
theorem fn86 : TT.fn 86 = some Try.f86 := by kernel_rfl
theorem md86 : (TT.an 86).mode = 1 := by kernel_rfl
theorem fi86 : FI.of Try.f86 (TT.an 86) = ⟨[.tmp 2], 20, [(0, [0]), (1, [0, 3]), (2, [0, 3, 7]), (3, [0, 3]), (4, [0, 3, 19]), (5, [2]), (6, [2])], []⟩ := by kernel_rfl
-- loop.example/g01121/spec.l07Is
theorem fn87 : TT.fn 87 = some Try.f87 := by kernel_rfl
theorem md87 : (TT.an 87).mode = 1 := by kernel_rfl
theorem fi87 : FI.of Try.f87 (TT.an 87) = ⟨[.tmp 2], 36, [(0, [0]), (1, [0, 3]), (2, [0, 3, 4]), (3, [0, 3, 4, 9]), (4, [0, 3, 4]), (5, [0, 3, 4, 29]), (6, [2]), (7, [2])], []⟩ := by kernel_rfl
-- slices.Sorted[int64]
theorem fn88 : TT.fn 88 = some Try.f88 := by kernel_rfl
theorem md88 : (TT.an 88).mode = 0 := by kernel_rfl
theorem fi88 : FI.of Try.f88 (TT.an 88) = ⟨[.tmp 2], 9, [(0, [0]), (1, [3]), (2, [3]), (3, [2])], []⟩ := by kernel_rfl
-- slices.Values[[]int64,int64]
theorem fn89 : TT.fn 89 = some Try.f89 := by kernel_rfl
theorem md89 : (TT.an 89).mode = 0 := by kernel_rfl
theorem fi89 : FI.of Try.f89 (TT.an 89) = ⟨[.tmp 2], 4, [(0, [1]), (1, [2])], []⟩ := by kernel_rfl
-- loop.example/g01121/spec.l00Has
theorem fn90 : TT.fn 90 = some Try.f90 := by kernel_rfl
theorem md90 : (TT.an 90).mode = 1 := by kernel_rfl
theorem fi90 : FI.of Try.f90 (TT.an 90) = ⟨[.tmp 4], 18, [(0, [0, 1]), (1, [0, 1, 5]), (2, [0, 1, 5, 9]), (3, [0, 1, 5]), (4, [0, 1, 5, 17]), (5, [4]), (6, [4])], []⟩ := by kernel_rfl
-- loop.example/g01121/spec.l00Put
theorem fn91 : TT.fn 91 = some Try.f91 := by kernel_rfl
theorem md91 : (TT.an 91).mode = 2 := by kernel_rfl
theorem fi91 : FI.of Try.f91 (TT.an 91) = ⟨[.tmp 4], 49, [(0, [0, 1]), (1, [0, 1, 5]), (2, [0, 1, 5, 6]), (3, [0, 1, 5, 6, 7]), (4, [0, 1, 5, 6, 7, 12]), (5, [0, 1, 5, 6, 7]), (6, [0, 1, 5, 6, 7, 24]), (7, [0, 1, 5, 6, 7]), (8, [0, 1, 5, 6, 7, 30]), (9, [0, 1, 5, 6, 7]), (10, [0, 1, 5, 6, 7]), (11, [1, 5, 43]), (12, [5]), (13, [4])], []⟩ := by kernel_rfl
-- slices.Contains[[]int64,int64]
theorem fn92 : TT.fn 92 = some Try.f92 := by kernel_rfl
theorem md92 : (TT.an 92).mode = 1 := by kernel_rfl
theorem fi92 : FI.of Try.f92 (TT.an 92) = ⟨[.tmp 4], 9, [(0, [0, 1]), (1, [4])], []⟩ := by kernel_rfl
-- slices.Sort[[]int64,int64]
theorem fn93 : TT.fn 93 = some Try.f93 := by kernel_rfl
theorem md93 : (TT.an 93).mode = 0 := by kernel_rfl
theorem fi93 : FI.of Try.f93 (TT.an 93) = ⟨[], 11, [(0, [0, 2]), (1, [])], []⟩ := by kernel_rfl
-- loop.example/g01121/spec.l07Rising
theorem fn94 : TT.fn 94 = some Try.f94 := by kernel_rfl
theorem md94 : (TT.an 94).mode = 1 := by kernel_rfl
theorem fi94 : FI.of Try.f94 (TT.an 94) = ⟨[.tmp 2], 42, [(0, [0]), (1, [0, 3]), (2, [0, 3, 4]), (3, [0, 3, 4, 13]), (4, [0, 3, 4]), (5, [0, 3, 4]), (6, [3, 5]), (7, [3, 5, 6]), (8, [3, 5, 6, 26]), (9, [3, 5, 6]), (10, [3, 5, 6, 38]), (11, [3, 5, 6]), (12, [2])], []⟩ := by kernel_rfl
-- loop.example/g01121/impl.rising
theorem fn95 : TT.fn 95 = some Try.f95 := by kernel_rfl
theorem md95 : (TT.an 95).mode = 1 := by kernel_rfl
theorem fi95 : FI.of Try.f95 (TT.an 95) = ⟨[.tmp 2], 23, [(0, [0]), (1, [0, 3]), (2, [0, 3, 7, 8]), (3, [0, 3, 7, 8, 9]), (4, [0, 3, 4, 7, 8]), (5, [0, 3, 7, 8, 18]), (6, [0, 3, 7, 8]), (7, [0, 3, 7, 8]), (8, [2])], []⟩ := by kernel_rfl
-- loop.example/g01121/spec.l07Swap
theorem fn96 : TT.fn 96 = some Try.f96 := by kernel_rfl
theorem md96 : (TT.an 96).mode = 0 := by kernel_rfl
theorem fi96 : FI.of Try.f96 (TT.an 96) = ⟨[], 22, [(0, [0, 1, 2, 6]), (1, [0, 2, 6]), (2, [])], []⟩ := by kernel_rfl
-- slices.Index[[]int64,int64]
theorem fn97 : TT.fn 97 = some Try.f97 := by kernel_rfl
theorem md97 : (TT.an 97).mode = 1 := by kernel_rfl
theorem fi97 : FI.of Try.f97 (TT.an 97) = ⟨[.tmp 4], 19, [(0, [0, 1]), (1, [0, 1, 7, 8]), (2, [0, 1, 7, 8, 9]), (3, [0, 1, 5, 7, 8]), (4, [0, 1, 5, 7, 8, 16]), (5, [4]), (6, [0, 1, 7, 8]), (7, [4])], []⟩ := by kernel_rfl
-- loop.example/g01121/spec.l00From
theorem fn98 : TT.fn 98 = some Try.f98 := by kernel_rfl
theorem md98 : (TT.an 98).mode = 0 := by kernel_rfl
theorem fi98 : FI.of Try.f98 (TT.an 98) = ⟨[.tmp 2], 6, [(0, [0]), (1, [2])], []⟩ := by kernel_rfl
-- (*loop.example/g01121/spec.l00Src).pick
theorem fn99 : TT.fn 99 = some Try.f99 := by kernel_rfl
theorem md99 : (TT.an 99).mode = 0 := by kernel_rfl
theorem fi99 : FI.of Try.f99 (TT.an 99) = ⟨[.tmp 4], 20, [(0, [0, 1]), (1, [0, 1, 7]), (2, [4]), (3, [0, 1, 5]), (4, [0, 1, 5, 11]), (5, [1, 5]), (6, [4])], []⟩ := by kernel_rfl
-- loop.example/g01121/impl.countRising
theorem fn100 : TT.fn 100 = some Try.f100 := by kernel_rfl
theorem md100 : (TT.an 100).mode = 2 := by kernel_rfl
theorem fi100 : FI.of Try.f100 (TT.an 100) = ⟨[.tmp 2], 43, [(0, [0]), (1, [0, 3]), (2, [0, 3]), (3, [0, 3, 4]), (4, [0, 3, 4, 12]), (5, [0, 3, 4]), (6, [0, 3, 4, 5]), (7, [0, 3, 4, 5, 6]), (8, [0, 3, 4, 5, 6, 18]), (9, [0, 3, 4, 5, 6]), (10, [0, 3, 4, 5, 6]), (11, [0, 3, 4]), (12, [2])], []⟩ := by kernel_rfl
-- slices.ContainsFunc[[]int64,int64]
theorem fn101 : TT.fn 101 = some Try.f101 := by kernel_rfl
theorem md101 : (TT.an 101).mode = 0 := by kernel_rfl
theorem fi101 : FI.of Try.f101 (TT.an 101) = ⟨[.tmp 4], 9, [(0, [0, 1]), (1, [4])], []⟩ := by kernel_rfl
-- loop.example/g01121/impl.allIn$1
theorem fn102 : TT.fn 102 = some Try.f102 := by kernel_rfl
theorem md102 : (TT.an 102).mode = 0 := by kernel_rfl
theorem fi102 : FI.of Try.f102 (TT.an 102) = ⟨[.tmp 4], 10, [(0, [0, 1, 2]), (1, [4])], []⟩ := by kernel_rfl
-- math/bits.Mul64
theorem fn103 : TT.fn 103 = some Try.f103 := by kernel_rfl
theorem md103 : (TT.an 103).mode = 1 := by kernel_rfl
theorem fi103 : FI.of Try.f103 (TT.an 103) = ⟨[.tmp 4, .tmp 5], 51, [(0, [0, 1]), (1, [0, 1, 6]), (2, [0, 1, 6, 7]), (3, [0, 1, 6, 7, 8]), (4, [0, 1, 6, 7, 8, 9]), (5, [0, 1, 6, 7, 8, 9, 10]), (6, [0, 1, 6, 7, 9, 11]), (7, [0, 1, 6, 7, 9, 11, 12]), (8, [0, 1, 6, 7, 9, 12, 13]), (9, [0, 1, 7, 9, 12, 13]), (10, [0, 1, 4]), (11, [4, 5])], []⟩ := by kernel_rfl
-- math/bits.Div64
theorem fn104 : TT.fn 104 = some Try.f104 := by kernel_rfl
theorem md104 : (TT.an 104).mode = 1 := by kernel_rfl
theorem fi104 : FI.of Try.f104 (TT.an 104) = ⟨[.tmp 6, .tmp 7], 135, [(0, [0, 1, 2]), (1, [0, 1, 2, 20]), (2, [0, 1, 2]), (3, [0, 1, 2, 24]), (4, [0, 1, 2]), (5, [0, 1, 2, 27]), (6, [6, 7]), (7, [0, 1, 2, 8]), (8, [0, 1, 2, 8]), (9, [0, 1, 2, 8, 9]), (10, [0, 1, 2, 8, 9, 10]), (11, [1, 2, 8, 9, 10, 11]), (12, [2, 8, 9, 10, 11, 12]), (13, [2, 8, 9, 10, 11, 12, 13]), (14, [2, 8, 9, 10, 11, 13, 14]), (15, [2, 8, 9, 10, 11, 13, 14, 15]), (16, [2, 8, 9, 10, 11, 13, 14, 15, 16]), (17, [2, 8, 9, 10, 11, 13, 14, 15, 16, 78]), (18, [2, 8, 9, 10, 11, 13, 14, 15, 16]), (19, [2, 8, 9, 10, 11, 13, 14, 15, 16]), (20, [2, 8, 9, 10, 11, 13, 14, 15, 16, 85]), (21, [2, 8, 9, 10, 14, 15, 17]), (22, [2, 8, 9, 10, 14, 15, 17, 18]), (23, [2, 8, 9, 10, 14, 15, 16, 17, 18]), (24, [2, 8, 9, 10, 14, 15, 16, 17, 18, 113]), (25, [2, 8, 9, 10, 14, 15, 16, 17, 18]), (26, [2, 8, 9, 10, 14, 15, 16, 17, 18]), (27, [2, 8, 9, 10, 14, 15, 16, 17, 18, 120]), (28, [6, 7])], []⟩ := by kernel_rfl
-- slices.Collect[int64]
theorem fn105 : TT.fn 105 = some Try.f105 := by kernel_rfl
theorem md105 : (TT.an 105).mode = 0 := by kernel_rfl
theorem fi105 : FI.of Try.f105 (TT.an 105) = ⟨[.tmp 2], 5, [(0, [0]), (1, [2])], []⟩ := by kernel_rfl
-- slices.Values[[]int64,int64]$1
theorem fn106 : TT.fn 106 = some Try.f106 := by kernel_rfl
theorem md106 : (TT.an 106).mode = 0 := by kernel_rfl
theorem fi106 : FI.of Try.f106 (TT.an 106) = ⟨[], 16, [(0, [0, 5, 6, 7]), (1, [0, 5, 6, 7, 8]), (2, [0, 4, 5, 6, 7]), (3, [0, 5, 6, 7, 14]), (4, [0, 5, 6, 7])], []⟩ := by kernel_rfl
-- slices.pdqsortOrdered[int64]
theorem fn107 : TT.fn 107 = some Try.f107 := by kernel_rfl
theorem md107 : (TT.an 107).mode = 0 := by kernel_rfl
theorem fi107 : FI.of Try.f107 (TT.an 107) = ⟨[], 134, [(0, [0, 1, 2, 3, 8]), (1, [0, 1, 2, 3, 8, 9]), (2, [0, 1, 2, 3, 8, 9, 10]), (3, [0, 1, 2, 3, 8, 9, 10, 23]), (4, []), (5, [0, 1, 2, 3, 8, 9, 10, 29]), (6, []), (7, [0, 1, 2, 3, 8, 9, 10, 35]), (8, [0, 1, 2, 3, 8, 9, 10]), (9, [0, 1, 2, 3, 8, 9, 10]), (10, [0, 1, 2, 3, 8, 9, 10, 11, 12]), (11, [0, 1, 2, 3, 8, 9, 10, 11, 12, 50]), (12, [0, 1, 2, 3, 8, 9, 10, 11]), (13, [0, 1, 2, 3, 8, 9, 10, 11]), (14, [0, 1, 2, 3, 8, 9, 10, 11, 12]), (15, [0, 1, 2, 3, 8, 9, 10, 11, 68]), (16, [0, 1, 2, 3, 8, 9, 10, 11, 72]), (17, [0, 1, 2, 3, 8, 9, 10, 11, 87]), (18, [0, 2, 3, 8, 9, 13]), (19, [0, 1, 2, 3, 8, 9]), (20, [0, 1, 2, 3, 10, 14, 15]), (21, [0, 1, 2, 3, 9, 10, 14]), (22, [0, 1, 2, 3, 9, 10, 14, 16, 17]), (23, [0, 1, 2, 3, 9, 14, 16, 17, 18]), (24, [0, 1, 2, 3, 9, 14, 16, 17, 18, 113]), (25, [0, 1, 2, 3, 8, 9, 14]), (26, [0, 2, 3, 8, 9, 14]), (27, [0, 1, 2, 3, 8, 9]), (28, [0, 1, 2, 3, 8, 9, 14]), (29, [0, 1, 3, 8, 9, 14]), (30, [0, 1, 2, 3, 8, 9])], []⟩ := by kernel_rfl
-- math/bits.Len
theorem fn108 : TT.fn 108 = some Try.f108 := by kernel_rfl
theorem md108 : (TT.an 108).mode = 1 := by kernel_rfl
theorem fi108 : FI.of Try.f108 (TT.an 108) = ⟨[.tmp 2], 8, [(0, [0]), (1, [2]), (2, [2])], []⟩ := by kernel_rfl
-- (*loop.example/g01121/spec.l00Src).next
theorem fn109 : TT.fn 109 = some Try.f109 := by kernel_rfl
theorem md109 : (TT.an 109).mode = 0 := by kernel_rfl
theorem fi109 : FI.of Try.f109 (TT.an 109) = ⟨[.tmp 2], 62, [(0, [0]), (1, [0, 3]), (2, [0, 3, 13]), (3, [0, 3]), (4, [0, 3]), (5, [0, 3]), (6, [0, 3, 53]), (7, [2]), (8, [2])], []⟩ := by kernel_rfl
-- slices.IndexFunc[[]int64,int64]
theorem fn110 : TT.fn 110 = some Try.f110 := by kernel_rfl
theorem md110 : (TT.an 110).mode = 0 := by kernel_rfl
theorem fi110 : FI.of Try.f110 (TT.an 110) = ⟨[.tmp 4], 19, [(0, [0, 1]), (1, [0, 1, 7, 8]), (2, [0, 1, 7, 8, 9]), (3, [0, 1, 5, 7, 8]), (4, [0, 1, 5, 7, 8, 16]), (5, [4]), (6, [0, 1, 7, 8]), (7, [4])], []⟩ := by kernel_rfl
-- math/bits.LeadingZeros64
theorem fn111 : TT.fn 111 = some Try.f111 := by kernel_rfl
theorem md111 : (TT.an 111).mode = 1 := by kernel_rfl
theorem fi111 : FI.of Try.f111 (TT.an 111) = ⟨[.tmp 2], 6, [(0, [0]), (1, [2])], []⟩ := by kernel_rfl
-- slices.insertionSortOrdered[int64]
theorem fn113 : TT.fn 113 = some Try.f113 := by kernel_rfl
theorem md113 : (TT.an 113).mode = 0 := by kernel_rfl
theorem fi113 : FI.of Try.f113 (TT.an 113) = ⟨[], 49, [(0, [0, 1, 2, 6]), (1, [0, 1, 2, 6, 12]), (2, [0, 1, 2, 6]), (3, [0, 1, 2, 6, 7]), (4, [0, 1, 2, 6, 7, 30]), (5, [0, 1, 2, 6, 7]), (6, [0, 1, 2, 6, 7])], []⟩ := by kernel_rfl
-- slices.heapSortOrdered[int64]
theorem fn114 : TT.fn 114 = some Try.f114 := by kernel_rfl
theorem md114 : (TT.an 114).mode = 0 := by kernel_rfl
theorem fi114 : FI.of Try.f114 (TT.an 114) = ⟨[], 56, [(0, [0, 1, 2, 6]), (1, [0, 1, 2, 6, 7]), (2, [0, 6, 7, 8]), (3, [0, 6, 7, 8, 9]), (4, [0, 6, 7, 8, 9, 19]), (5, [0, 6, 7, 8, 9]), (6, [0, 6, 7, 8, 9]), (7, [0, 6, 7, 10]), (8, [0, 6, 7, 10, 30]), (9, [0, 6, 7, 10]), (10, [0, 6, 7, 10]), (11, [0, 6, 7, 10])], []⟩ := by kernel_rfl
-- slices.breakPatternsOrdered[int64]
theorem fn115 : TT.fn 115 = some Try.f115 := by kernel_rfl
theorem md115 : (TT.an 115).mode = 0 := by kernel_rfl
theorem fi115 : FI.of Try.f115 (TT.an 115) = ⟨[], 65, [(0, [0, 1, 6]), (1, [0, 1, 6, 15]), (2, [0, 1, 6, 7]), (3, [0, 1, 6, 7, 8]), (4, [0, 1, 6, 7, 8, 9]), (5, [0, 1, 6, 7, 8, 9, 33]), (6, [0, 1, 6, 7, 8, 9]), (7, [0, 1, 6, 7, 8, 9, 10]), (8, [0, 1, 6, 7, 8, 9, 10, 43]), (9, [0, 1, 6, 7, 8, 9, 10]), (10, [0, 1, 6, 7, 8, 9])], []⟩ := by kernel_rfl
-- slices.choosePivotOrdered[int64]
theorem fn116 : TT.fn 116 = some Try.f116 := by kernel_rfl
theorem md116 : (TT.an 116).mode = 0 := by kernel_rfl
theorem fi116 : FI.of Try.f116 (TT.an 116) = ⟨[.tmp 6, .tmp 7], 57, [(0, [0, 1, 2]), (1, [0, 1, 8]), (2, [0, 1, 8, 9]), (3, [0, 1, 8, 9, 10]), (4, [0, 1, 8, 9, 10, 11]), (5, [0, 8, 9, 10, 11, 12]), (6, [0, 8, 9, 10, 11, 12, 32]), (7, [0, 9, 10, 11, 12, 34]), (8, [0, 9, 10, 11, 12]), (9, [0, 9, 10, 11, 12]), (10, [0, 9, 10, 11, 12]), (11, [9, 11]), (12, [11, 49]), (13, [6, 7]), (14, [11, 49, 51]), (15, [6, 7]), (16, [11, 54]), (17, [6, 7])], []⟩ := by kernel_rfl
-- slices.reverseRangeOrdered[int64]
theorem fn117 : TT.fn 117 = some Try.f117 := by kernel_rfl
theorem md117 : (TT.an 117).mode = 0 := by kernel_rfl
theorem fi117 : FI.of Try.f117 (TT.an 117) = ⟨[], 32, [(0, [0, 2, 6]), (1, [0, 6, 7]), (2, [0, 6, 7, 13]), (3, [0, 6, 7]), (4, [0, 6, 7]), (5, [0, 6, 7])], []⟩ := by kernel_rfl
-- slices.partialInsertionSortOrdered[int64]
theorem fn118 : TT.fn 118 = some Try.f118 := by kernel_rfl
theorem md118 : (TT.an 118).mode = 0 := by kernel_rfl
theorem fi118 : FI.of Try.f118 (TT.an 118) = ⟨[.tmp 6], 133, [(0, [0, 1, 2]), (1, [0, 1, 2, 7]), (2, [0, 1, 2, 7, 8]), (3, [0, 1, 2, 7, 8, 14]), (4, [0, 1, 2, 7, 8]), (5, [0, 1, 2, 7, 8, 32]), (6, [0, 1, 2, 7, 8]), (7, [0, 1, 2, 7, 8, 37]), (8, [6]), (9, [0, 1, 2, 7, 8, 41]), (10, [6]), (11, [0, 1, 2, 7, 8]), (12, [0, 1, 2, 7, 8, 61]), (13, [0, 1, 2, 7, 8, 9]), (14, [0, 1, 2, 7, 8, 9, 65]), (15, [0, 1, 2, 7, 8, 9]), (16, [0, 1, 2, 7, 8, 9, 78]), (17, [0, 1, 2, 7, 8, 9]), (18, [0, 1, 2, 7, 8, 98]), (19, [0, 1, 2, 7, 8, 10]), (20, [0, 1, 2, 7, 8, 10, 103]), (21, [0, 1, 2, 7, 8, 10]), (22, [0, 1, 2, 7, 8, 10, 116]), (23, [0, 1, 2, 7, 8, 10]), (24, [6])], []⟩ := by kernel_rfl
-- cmp.Less[int64]
theorem fn119 : TT.fn 119 = some Try.f119 := by kernel_rfl
theorem md119 : (TT.an 119).mode = 1 := by kernel_rfl
theorem fi119 : FI.of Try.f119 (TT.an 119) = ⟨[.tmp 4], 17, [(0, [0, 1]), (1, [4])], []⟩ := by kernel_rfl
-- slices.partitionEqualOrdered[int64]
theorem fn120 : TT.fn 120 = some Try.f120 := by kernel_rfl
theorem md120 : (TT.an 120).mode = 0 := by kernel_rfl
theorem fi120 : FI.of Try.f120 (TT.an 120) = ⟨[.tmp 8], 84, [(0, [0, 1, 2, 3]), (1, [0, 1, 2]), (2, [0, 1, 9, 10]), (3, [0, 1, 9, 10, 43]), (4, [0, 1, 9, 10]), (5, [0, 1, 9, 10, 59]), (6, [0, 1, 9, 10]), (7, [0, 1, 9, 10, 64]), (8, [0, 1, 9, 10]), (9, [0, 1, 9, 10]), (10, [0, 1, 9, 10]), (11, [8])], []⟩ := by kernel_rfl
-- slices.partitionOrdered[int64]
theorem fn121 : TT.fn 121 = some Try.f121 := by kernel_rfl
theorem md121 : (TT.an 121).mode = 0 := by kernel_rfl
theorem fi121 : FI.of Try.f121 (TT.an 121) = ⟨[.tmp 8, .tmp 9], 168, [(0, [0, 1, 2, 3]), (1, [0, 1, 2]), (2, [0, 1, 10, 11]), (3, [0, 1, 10, 11, 43]), (4, [0, 1, 10, 11]), (5, [0, 1, 10, 11, 60]), (6, [0, 1, 10, 11]), (7, [0, 1, 10, 11, 65]), (8, [11]), (9, [8, 9]), (10, [0, 1, 10, 11]), (11, [0, 1, 10, 11]), (12, [0, 1, 10, 11]), (13, [0, 1, 10, 11, 112]), (14, [0, 1, 10, 11]), (15, [0, 1, 10, 11, 129]), (16, [0, 1, 10, 11]), (17, [0, 1, 10, 11, 134]), (18, [0, 1, 10, 11]), (19, [0, 1, 10, 11]), (20, [0, 1, 10, 11]), (21, [11]), (22, [8, 9])], []⟩ := by kernel_rfl
-- math/bits.Len32
theorem fn122 : TT.fn 122 = some Try.f122 := by kernel_rfl
theorem md122 : (TT.an 122).mode = 1 := by kernel_rfl
theorem fi122 : FI.of Try.f122 (TT.an 122) = ⟨[.tmp 2], 19, [(0, [0, 2]), (1, [0, 2, 4]), (2, [0]), (3, [0, 2]), (4, [0, 2, 8]), (5, [0, 2]), (6, [0, 2]), (7, [2])], []⟩ := by kernel_rfl
-- math/bits.Len64
theorem fn123 : TT.fn 123 = some Try.f123 := by kernel_rfl
theorem md123 : (TT.an 123).mode = 1 := by kernel_rfl
theorem fi123 : FI.of Try.f123 (TT.an 123) = ⟨[.tmp 2], 25, [(0, [0, 2]), (1, [0, 2, 4]), (2, [0]), (3, [0, 2]), (4, [0, 2, 8]), (5, [0, 2]), (6, [0, 2]), (7, [0, 2, 14]), (8, [0, 2]), (9, [0, 2]), (10, [2])], []⟩ := by kernel_rfl
-- slices.siftDownOrdered[int64]
theorem fn124 : TT.fn 124 = some Try.f124 := by kernel_rfl
theorem md124 : (TT.an 124).mode = 0 := by kernel_rfl
theorem fi124 : FI.of Try.f124 (TT.an 124) = ⟨[], 76, [(0, [0, 2, 3, 8]), (1, [0, 2, 3, 8, 9]), (2, [0, 2, 3, 8, 9, 16]), (3, [0, 2, 3, 8, 9, 36]), (4, [0, 2, 3, 8, 9]), (5, [0, 2, 3, 8, 9, 52]), (6, [0, 2, 3, 9]), (7, [0, 2, 3, 8])], []⟩ := by kernel_rfl
-- slices.nextPowerOfTwo
theorem fn125 : TT.fn 125 = some Try.f125 := by kernel_rfl
theorem md125 : (TT.an 125).mode = 1 := by kernel_rfl
theorem fi125 : FI.of Try.f125 (TT.an 125) = ⟨[.tmp 2], 7, [(0, [0]), (1, [2])], []⟩ := by kernel_rfl
-- (*slices.xorshift).Next
theorem fn126 : TT.fn 126 = some Try.f126 := by kernel_rfl
theorem md126 : (TT.an 126).mode = 0 := by kernel_rfl
theorem fi126 : FI.of Try.f126 (TT.an 126) = ⟨[.tmp 2], 33, [(0, [0]), (1, [0]), (2, [0]), (3, [0]), (4, [2])], []⟩ := by kernel_rfl
-- slices.medianAdjacentOrdered[int64]
theorem fn127 : TT.fn 127 = some Try.f127 := by kernel_rfl
theorem md127 : (TT.an 127).mode = 0 := by kernel_rfl
theorem fi127 : FI.of Try.f127 (TT.an 127) = ⟨[.tmp 6], 15, [(0, [0, 1, 2]), (1, [6])], []⟩ := by kernel_rfl
-- slices.medianOrdered[int64]
theorem fn128 : TT.fn 128 = some Try.f128 := by kernel_rfl
theorem md128 : (TT.an 128).mode = 0 := by kernel_rfl
theorem fi128 : FI.of Try.f128 (TT.an 128) = ⟨[.tmp 10], 36, [(0, [0, 1, 2, 3, 4]), (1, [0, 1, 2, 3, 4]), (2, [0, 1, 2, 4]), (3, [2]), (4, [10])], []⟩ := by kernel_rfl
-- cmp.isNaN[int64]
theorem fn129 : TT.fn 129 = some Try.f129 := by kernel_rfl
theorem md129 : (TT.an 129).mode = 1 := by kernel_rfl
theorem fi129 : FI.of Try.f129 (TT.an 129) = ⟨[.tmp 2], 6, [(0, [0]), (1, [2])], []⟩ := by kernel_rfl
-- slices.order2Ordered[int64]
theorem fn130 : TT.fn 130 = some Try.f130 := by kernel_rfl
theorem md130 : (TT.an 130).mode = 0 := by kernel_rfl
theorem fi130 : FI.of Try.f130 (TT.an 130) = ⟨[.tmp 8, .tmp 9], 28, [(0, [0, 1, 2, 3]), (1, [1, 2, 3, 18]), (2, [1, 2]), (3, [8, 9]), (4, [8, 9])], []⟩ := by kernel_rfl
theorem ty1 : TT.ty 1 = some ⟨.func, 1, 8, [.nilF]⟩ := by kernel_rfl
theorem ty2 : TT.ty 2 = some ⟨.int .i64, 1, 8, [.int .i64 0]⟩ := by kernel_rfl
theorem ty3 : TT.ty 3 = some ⟨.int .i64, 1, 8, [.int .i64 0]⟩ := by kernel_rfl
theorem ty4 : TT.ty 4 = some ⟨.bool, 1, 1, [.bool false]⟩ := by kernel_rfl
theorem ty5 : TT.ty 5 = some ⟨.int .u8, 1, 1, [.int .u8 0]⟩ := by kernel_rfl
theorem ty6 : TT.ty 6 = some ⟨.int .u8, 1, 1, [.int .u8 0]⟩ := by kernel_rfl
theorem ty7 : TT.ty 7 = some ⟨.struct [(2, 0), (3, 1), (4, 2), (6, 3)], 4, 24, [.int .i64 0, .int .i64 0, .bool false, .int .u8 0]⟩ := by kernel_rfl
theorem ty8 : TT.ty 8 = some ⟨.struct [(2, 0), (3, 1), (4, 2), (6, 3)], 4, 24, [.int .i64 0, .int .i64 0, .bool false, .int .u8 0]⟩ := by kernel_rfl
theorem ty9 : TT.ty 9 = some ⟨.string, 1, 16, [.str []]⟩ := by kernel_rfl
theorem ty10 : TT.ty 10 = some ⟨.string, 1, 16, [.str []]⟩ := by kernel_rfl
theorem ty11 : TT.ty 11 = some ⟨.string, 1, 16, [.str []]⟩ := by kernel_rfl
theorem ty12 : TT.ty 12 = some ⟨.int .u64, 1, 8, [.int .u64 0]⟩ := by kernel_rfl
theorem ty13 : TT.ty 13 = some ⟨.struct [(9, 0), (12, 1)], 2, 24, [.str [], .int .u64 0]⟩ := by kernel_rfl
theorem ty14 : TT.ty 14 = some ⟨.struct [(9, 0), (12, 1)], 2, 24, [.str [], .int .u64 0]⟩ := by kernel_rfl
theorem ty15 : TT.ty 15 = some ⟨.pointer, 1, 8, [.nilP]⟩ := by kernel_rfl
theorem ty16 : TT.ty 16 = some ⟨.pointer, 1, 8, [.nilP]⟩ := by kernel_rfl
theorem ty17 : TT.ty 17 = some ⟨.pointer, 1, 8, [.nilP]⟩ := by kernel_rfl
theorem ty18 : TT.ty 18 = some ⟨.struct [(17, 0)], 1, 8, [.nilP]⟩ := by kernel_rfl
theorem ty19 : TT.ty 19 = some ⟨.struct [(17, 0)], 1, 8, [.nilP]⟩ := by kernel_rfl
theorem ty20 : TT.ty 20 = some ⟨.iface, 1, 16, [.nilI]⟩ := by kernel_rfl
theorem ty21 : TT.ty 21 = some ⟨.int .i32, 1, 4, [.int .i32 0]⟩ := by kernel_rfl
theorem ty22 : TT.ty 22 = some ⟨.slice 2, 1, 24, [.nilS]⟩ := by kernel_rfl
theorem ty24 : TT.ty 24 = some ⟨.func, 1, 8, [.nilF]⟩ := by kernel_rfl
theorem ty25 : TT.ty 25 = some ⟨.func, 1, 8, [.nilF]⟩ := by kernel_rfl
theorem ty26 : TT.ty 26 = some ⟨.func, 1, 8, [.nilF]⟩ := by kernel_rfl
theorem ty27 : TT.ty 27 = some ⟨.func, 1, 8, [.nilF]⟩ := by kernel_rfl
theorem ty28 : TT.ty 28 = some ⟨.func, 1, 8, [.nilF]⟩ := by kernel_rfl
theorem ty29 : TT.ty 29 = some ⟨.func, 1, 8, [.nilF]⟩ := by kernel_rfl
theorem ty30 : TT.ty 30 = some ⟨.func, 1, 8, [.nilF]⟩ := by kernel_rfl
theorem ty31 : TT.ty 31 = some ⟨.func, 1, 8, [.nilF]⟩ := by kernel_rfl
theorem ty32 : TT.ty 32 = some ⟨.func, 1, 8, [.nilF]⟩ := by kernel_rfl
theorem ty33 : TT.ty 33 = some ⟨.func, 1, 8, [.nilF]⟩ := by kernel_rfl
theorem ty34 : TT.ty 34 = some ⟨.func, 1, 8, [.nilF]⟩ := by kernel_rfl
theorem ty35 : TT.ty 35 = some ⟨.func, 1, 8, [.nilF]⟩ := by kernel_rfl
theorem ty36 : TT.ty 36 = some ⟨.func, 1, 8, [.nilF]⟩ := by kernel_rfl
theorem ty38 : TT.ty 38 = some ⟨.func, 1, 8, [.nilF]⟩ := by kernel_rfl
theorem ty39 : TT.ty 39 = some ⟨.func, 1, 8, [.nilF]⟩ := by kernel_rfl
theorem ty40 : TT.ty 40 = some ⟨.slice 22, 1, 24, [.nilS]⟩ := by kernel_rfl
theorem ty42 : TT.ty 42 = some ⟨.func, 1, 8, [.nilF]⟩ := by kernel_rfl
theorem ty43 : TT.ty 43 = some ⟨.func, 1, 8, [.nilF]⟩ := by kernel_rfl
theorem ty44 : TT.ty 44 = some ⟨.func, 1, 8, [.nilF]⟩ := by kernel_rfl
theorem ty45 : TT.ty 45 = some ⟨.slice 5, 1, 24, [.nilS]⟩ := by kernel_rfl
theorem ty46 : TT.ty 46 = some ⟨.func, 1, 8, [.nilF]⟩ := by kernel_rfl
theorem ty47 : TT.ty 47 = some ⟨.func, 1, 8, [.nilF]⟩ := by kernel_rfl
theorem ty48 : TT.ty 48 = some ⟨.func, 1, 8, [.nilF]⟩ := by kernel_rfl
theorem ty49 : TT.ty 49 = some ⟨.func, 1, 8, [.nilF]⟩ := by kernel_rfl
theorem ty50 : TT.ty 50 = some ⟨.func, 1, 8, [.nilF]⟩ := by kernel_rfl
theorem ty51 : TT.ty 51 = some ⟨.func, 1, 8, [.nilF]⟩ := by kernel_rfl
theorem ty52 : TT.ty 52 = some ⟨.func, 1, 8, [.nilF]⟩ := by kernel_rfl
theorem ty53 : TT.ty 53 = some ⟨.func, 1, 8, [.nilF]⟩ := by kernel_rfl
theorem ty54 : TT.ty 54 = some ⟨.func, 1, 8, [.nilF]⟩ := by kernel_rfl
theorem ty55 : TT.ty 55 = some ⟨.func, 1, 8, [.nilF]⟩ := by kernel_rfl
theorem ty56 : TT.ty 56 = some ⟨.func, 1, 8, [.nilF]⟩ := by kernel_rfl
theorem ty57 : TT.ty 57 = some ⟨.func, 1, 8, [.nilF]⟩ := by kernel_rfl
theorem ty58 : TT.ty 58 = some ⟨.func, 1, 8, [.nilF]⟩ := by kernel_rfl
theorem ty59 : TT.ty 59 = some ⟨.func, 1, 8, [.nilF]⟩ := by kernel_rfl
theorem ty60 : TT.ty 60 = some ⟨.func, 1, 8, [.nilF]⟩ := by kernel_rfl
theorem ty61 : TT.ty 61 = some ⟨.func, 1, 8, [.nilF]⟩ := by kernel_rfl
theorem ty62 : TT.ty 62 = some ⟨.func, 1, 8, [.nilF]⟩ := by kernel_rfl
theorem ty63 : TT.ty 63 = some ⟨.func, 1, 8, [.nilF]⟩ := by kernel_rfl
theorem ty64 : TT.ty 64 = some ⟨.func, 1, 8, [.nilF]⟩ := by kernel_rfl
theorem ty65 : TT.ty 65 = some ⟨.func, 1, 8, [.nilF]⟩ := by kernel_rfl
theorem ty66 : TT.ty 66 = some ⟨.func, 1, 8, [.nilF]⟩ := by kernel_rfl
theorem ty67 : TT.ty 67 = some ⟨.slice 4, 1, 24, [.nilS]⟩ := by kernel_rfl
theorem ty68 : TT.ty 68 = some ⟨.pointer, 1, 8, [.nilP]⟩ := by kernel_rfl
theorem ty69 : TT.ty 69 = some ⟨.func, 1, 8, [.nilF]⟩ := by kernel_rfl
theorem ty70 : TT.ty 70 = some ⟨.func, 1, 8, [.nilF]⟩ := by kernel_rfl
theorem ty71 : TT.ty 71 = some ⟨.int .u64, 1, 8, [.int .u64 0]⟩ := by kernel_rfl
theorem ty73 : TT.ty 73 = some ⟨.func, 1, 8, [.nilF]⟩ := by kernel_rfl
theorem ty74 : TT.ty 74 = some ⟨.func, 1, 8, [.nilF]⟩ := by kernel_rfl
theorem ty75 : TT.ty 75 = some ⟨.func, 1, 8, [.nilF]⟩ := by kernel_rfl
theorem ty76 : TT.ty 76 = some ⟨.func, 1, 8, [.nilF]⟩ := by kernel_rfl
theorem ty77 : TT.ty 77 = some ⟨.int .u64, 1, 8, [.int .u64 0]⟩ := by kernel_rfl
theorem ty78 : TT.ty 78 = some ⟨.struct [(45, 0), (3, 1), (71, 2)], 3, 40, [.nilS, .int .i64 0, .int .u64 0]⟩ := by kernel_rfl
theorem ty79 : TT.ty 79 = some ⟨.struct [(45, 0), (3, 1), (71, 2)], 3, 40, [.nilS, .int .i64 0, .int .u64 0]⟩ := by kernel_rfl
theorem ty80 : TT.ty 80 = some ⟨.func, 1, 8, [.nilF]⟩ := by kernel_rfl
theorem ty81 : TT.ty 81 = some ⟨.func, 1, 8, [.nilF]⟩ := by kernel_rfl
theorem ty82 : TT.ty 82 = some ⟨.iface, 1, 16, [.nilI]⟩ := by kernel_rfl
theorem ty83 : TT.ty 83 = some ⟨.iface, 1, 16, [.nilI]⟩ := by kernel_rfl
theorem ty84 : TT.ty 84 = some ⟨.func, 1, 8, [.nilF]⟩ := by kernel_rfl
theorem ty85 : TT.ty 85 = some ⟨.func, 1, 8, [.nilF]⟩ := by kernel_rfl
theorem ty86 : TT.ty 86 = some ⟨.func, 1, 8, [.nilF]⟩ := by kernel_rfl
theorem ty87 : TT.ty 87 = some ⟨.int .i64, 1, 8, [.int .i64 0]⟩ := by kernel_rfl
theorem ty89 : TT.ty 89 = some ⟨.func, 1, 8, [.nilF]⟩ := by kernel_rfl
theorem ty90 : TT.ty 90 = some ⟨.func, 1, 8, [.nilF]⟩ := by kernel_rfl
theorem ty91 : TT.ty 91 = some ⟨.func, 1, 8, [.nilF]⟩ := by kernel_rfl
theorem ty93 : TT.ty 93 = some ⟨.func, 1, 8, [.nilF]⟩ := by kernel_rfl
theorem ty94 : TT.ty 94 = some ⟨.func, 1, 8, [.nilF]⟩ := by kernel_rfl
theorem ty95 : TT.ty 95 = some ⟨.int .u32, 1, 4, [.int .u32 0]⟩ := by kernel_rfl
theorem ty96 : TT.ty 96 = some ⟨.int .u64, 1, 8, [.int .u64 0]⟩ := by kernel_rfl
theorem ty97 : TT.ty 97 = some ⟨.func, 1, 8, [.nilF]⟩ := by kernel_rfl
theorem ty98 : TT.ty 98 = some ⟨.func, 1, 8, [.nilF]⟩ := by kernel_rfl
theorem ty99 : TT.ty 99 = some ⟨.func, 1, 8, [.nilF]⟩ := by kernel_rfl
theorem ty100 : TT.ty 100 = some ⟨.pointer, 1, 8, [.nilP]⟩ := by kernel_rfl
theorem ty101 : TT.ty 101 = some ⟨.func, 1, 8, [.nilF]⟩ := by kernel_rfl
theorem ty102 : TT.ty 102 = some ⟨.pointer, 1, 8, [.nilP]⟩ := by kernel_rfl
theorem ty104 : TT.ty 104 = some ⟨.func, 1, 8, [.nilF]⟩ := by kernel_rfl
theorem ty105 : TT.ty 105 = some ⟨.pointer, 1, 8, [.nilP]⟩ := by kernel_rfl
theorem ty106 : TT.ty 106 = some ⟨.func, 1, 8, [.nilF]⟩ := by kernel_rfl
theorem ty107 : TT.ty 107 = some ⟨.struct [(17, 0), (17, 1), (17, 2), (9, 3)], 4, 40, [.nilP, .nilP, .nilP, .str []]⟩ := by kernel_rfl
theorem ty108 : TT.ty 108 = some ⟨.struct [(17, 0), (17, 1), (17, 2), (9, 3)], 4, 40, [.nilP, .nilP, .nilP, .str []]⟩ := by kernel_rfl
theorem ty109 : TT.ty 109 = some ⟨.array 0 16, 0, 0, []⟩ := by kernel_rfl
theorem ty110 : TT.ty 110 = some ⟨.struct [(109, 0)], 0, 0, []⟩ := by kernel_rfl
theorem ty111 : TT.ty 111 = some ⟨.struct [(109, 0)], 0, 0, []⟩ := by kernel_rfl
theorem ty112 : TT.ty 112 = some ⟨.func, 1, 8, [.nilF]⟩ := by kernel_rfl
theorem ty113 : TT.ty 113 = some ⟨.int .u8, 1, 1, [.int .u8 0]⟩ := by kernel_rfl
theorem ty114 : TT.ty 114 = some ⟨.int .u8, 1, 1, [.int .u8 0]⟩ := by kernel_rfl
theorem ty115 : TT.ty 115 = some ⟨.func, 1, 8, [.nilF]⟩ := by kernel_rfl
theorem ty116 : TT.ty 116 = some ⟨.pointer, 1, 8, [.nilP]⟩ := by kernel_rfl
theorem ty117 : TT.ty 117 = some ⟨.int .i32, 1, 4, [.int .i32 0]⟩ := by kernel_rfl
theorem ty118 : TT.ty 118 = some ⟨.int .i32, 1, 4, [.int .i32 0]⟩ := by kernel_rfl
theorem ty119 : TT.ty 119 = some ⟨.struct [(12, 0), (12, 1), (95, 2), (113, 3), (5, 4), (5, 5), (114, 6), (115, 7), (116, 8), (117, 9), (118, 10)], 11, 48, [.int .u64 0, .int .u64 0, .int .u32 0, .int .u8 0, .int .u8 0, .int .u8 0, .int .u8 0, .nilF, .nilP, .int .i32 0, .int .i32 0]⟩ := by kernel_rfl
theorem ty120 : TT.ty 120 = some ⟨.struct [(12, 0), (12, 1), (95, 2), (113, 3), (5, 4), (5, 5), (114, 6), (115, 7), (116, 8), (117, 9), (118, 10)], 11, 48, [.int .u64 0, .int .u64 0, .int .u32 0, .int .u8 0, .int .u8 0, .int .u8 0, .int .u8 0, .nilF, .nilP, .int .i32 0, .int .i32 0]⟩ := by kernel_rfl
theorem ty121 : TT.ty 121 = some ⟨.struct [(9, 0)], 1, 16, [.str []]⟩ := by kernel_rfl
theorem ty122 : TT.ty 122 = some ⟨.struct [(9, 0)], 1, 16, [.str []]⟩ := by kernel_rfl
theorem ty123 : TT.ty 123 = some ⟨.other, 1, 8, [.nilP]⟩ := by kernel_rfl
end Go.Proofs.Ytaniaeefijgaiaa
