/- Facts on the tables of this seat. Nothing is claimed here; no condition. -/
import Derived.Test.YtonnbgjbohbibaaAbsY
import Derived.Test.YtonnbgjbohbibaaTab
namespace Go.Proofs.Ytonnbgjbohbibaa
open Go Go.Abs
-- loop.example/g01121/laws.FnExactTemperWord
theorem fn3 : TT.fn 3 = some Try.f3 := by kernel_rfl
theorem md3 : (TT.an 3).mode = 1 := by kernel_rfl
theorem fi3 : FI.of Try.f3 (TT.an 3) = ⟨[.tmp 4], 31, [(0, [1, 2]), (1, [1, 2, 5, 6]), (2, [5, 6, 7, 8]), (3, [30]), (4, [4]), (5, [4])], []⟩ := by kernel_rfl
-- loop.example/g01121/laws.FnSeeds
theorem fn4 : TT.fn 4 = some Try.f4 := by kernel_rfl
theorem md4 : (TT.an 4).mode = 1 := by kernel_rfl
theorem fi4 : FI.of Try.f4 (TT.an 4) = ⟨[.tmp 4], 123, [(0, [0, 1]), (1, [0, 1, 20]), (2, [4]), (3, [0, 1, 5]), (4, [0, 1, 5, 6]), (5, [1, 5, 6, 7]), (6, [1, 5, 6, 7, 8]), (7, [1, 5, 6, 7, 8, 9]), (8, [5, 6, 7, 8, 9, 10]), (9, [5, 6, 7, 8, 9, 10, 11]), (10, [5, 6, 7, 8, 9, 10, 11, 38]), (11, [5, 6, 7, 8, 9, 10, 11]), (12, [5, 6, 7, 8, 9, 10, 11]), (13, [5, 6, 7, 8, 9, 10, 11]), (14, [5, 6, 7, 8, 10, 12, 13]), (15, [5, 6, 7, 8, 10, 12, 13, 14, 15]), (16, [5, 6, 8, 10, 12, 88]), (17, [4]), (18, [5, 6, 8, 10, 12, 16]), (19, [5, 6, 8, 10, 12, 16, 92]), (20, [5, 6, 8, 10, 12, 16]), (21, [5, 6, 8, 9, 10, 12, 16]), (22, [5, 6, 8, 9, 10, 12, 16, 104]), (23, [4]), (24, [5, 6, 8, 9, 10, 12, 16, 17]), (25, [5, 6, 8, 9, 10, 12, 16, 17, 107]), (26, [5, 6, 8, 9, 10, 12, 16, 17]), (27, [5, 6, 8, 9, 10, 12, 16, 17, 116]), (28, [4]), (29, [5, 6, 8, 9, 10, 12, 16, 17]), (30, [4])], []⟩ := by kernel_rfl
-- loop.example/g01121/laws.FnExactValidLinear
theorem fn5 : TT.fn 5 = some Try.f5 := by kernel_rfl
theorem md5 : (TT.an 5).mode = 1 := by kernel_rfl
theorem fi5 : FI.of Try.f5 (TT.an 5) = ⟨[.tmp 2], 27, [(0, [1]), (1, [1, 3]), (2, [1, 3]), (3, [1, 11]), (4, [2]), (5, [1, 4]), (6, [1, 4, 5]), (7, [1, 4, 5, 6]), (8, [1, 5, 21]), (9, [2]), (10, [26]), (11, [2]), (12, [2])], [(10, [(0, 2)])]⟩ := by kernel_rfl
-- loop.example/g01121/laws.FnExactOfRegister
theorem fn6 : TT.fn 6 = some Try.f6 := by kernel_rfl
theorem md6 : (TT.an 6).mode = 1 := by kernel_rfl
theorem fi6 : FI.of Try.f6 (TT.an 6) = ⟨[.tmp 2], 66, [(0, [1]), (1, [1, 3, 4]), (2, [1, 3, 4, 5, 6]), (3, [1, 3, 4, 5, 31]), (4, [2]), (5, [1, 3, 4, 5, 7]), (6, [1, 3, 4, 5, 7]), (7, [1, 3, 4, 5, 7, 8]), (8, [1, 3, 4, 5, 7, 8]), (9, [1, 3, 4, 5, 7, 8, 39]), (10, [2]), (11, [1, 3, 4, 5, 7, 42]), (12, [2]), (13, [3, 4, 5, 7, 9, 10]), (14, [5, 7, 57]), (15, [2]), (16, [5, 7, 8]), (17, [7, 8]), (18, [7, 8, 62]), (19, [2]), (20, [65]), (21, [2]), (22, [2])], []⟩ := by kernel_rfl
-- loop.example/g01121/laws.FnExactUntemperWord
theorem fn7 : TT.fn 7 = some Try.f7 := by kernel_rfl
theorem md7 : (TT.an 7).mode = 1 := by kernel_rfl
theorem fi7 : FI.of Try.f7 (TT.an 7) = ⟨[.tmp 4], 31, [(0, [1, 2]), (1, [1, 2, 5, 6]), (2, [5, 6, 7, 8]), (3, [30]), (4, [4]), (5, [4])], []⟩ := by kernel_rfl
-- loop.example/g01121/laws.FnExactSeedsBehind
theorem fn8 : TT.fn 8 = some Try.f8 := by kernel_rfl
theorem md8 : (TT.an 8).mode = 1 := by kernel_rfl
theorem fi8 : FI.of Try.f8 (TT.an 8) = ⟨[.tmp 6], 103, [(0, [0, 1, 2]), (1, [0, 1, 2, 19]), (2, [6]), (3, [0, 1, 2, 7, 8]), (4, [0, 1, 2, 7, 8, 9]), (5, [0, 1, 2, 7, 8, 9, 10, 11]), (6, [0, 1, 2, 7, 8, 9, 10, 11, 45]), (7, [6]), (8, [0, 1, 2, 7, 8, 9, 10, 11, 50]), (9, [6]), (10, [0, 1, 2, 7, 8, 9, 10, 11, 12]), (11, [0, 1, 2, 7, 8, 10, 11, 12]), (12, [0, 1, 2, 7, 8, 10, 66]), (13, [6]), (14, [0, 1, 2, 7, 8, 10, 13]), (15, [0, 1, 2, 7, 8, 10, 13]), (16, [0, 1, 2, 7, 8, 10, 13, 14]), (17, [0, 1, 2, 7, 8, 10, 13, 14]), (18, [0, 1, 2, 7, 8, 10, 13, 14, 74]), (19, [6]), (20, [0, 1, 2, 7, 8, 10, 13, 77]), (21, [6]), (22, [7, 8, 10, 13, 15, 16]), (23, [10, 13, 94]), (24, [6]), (25, [10, 13, 14]), (26, [13, 14]), (27, [13, 14, 99]), (28, [6]), (29, [102]), (30, [6]), (31, [6])], []⟩ := by kernel_rfl
-- loop.example/g01121/laws.FnTempered
theorem fn9 : TT.fn 9 = some Try.f9 := by kernel_rfl
theorem md9 : (TT.an 9).mode = 1 := by kernel_rfl
theorem fi9 : FI.of Try.f9 (TT.an 9) = ⟨[.tmp 4], 93, [(0, [0, 1]), (1, [0, 1, 20]), (2, [4]), (3, [1, 5]), (4, [1, 5, 6]), (5, [5, 6, 7]), (6, [5, 6, 7, 8, 9]), (7, [5, 6, 7, 8, 9, 10, 11]), (8, [5, 6, 8, 9, 10, 11, 12, 13]), (9, [5, 6, 8, 9, 10, 11, 12, 13, 14, 15]), (10, [5, 6, 8, 9, 10, 11, 12, 13, 15, 16, 17]), (11, [4])], []⟩ := by kernel_rfl
-- loop.example/g01121/laws.FnExactRegisterBits
theorem fn10 : TT.fn 10 = some Try.f10 := by kernel_rfl
theorem md10 : (TT.an 10).mode = 1 := by kernel_rfl
theorem fi10 : FI.of Try.f10 (TT.an 10) = ⟨[.tmp 6], 35, [(0, [1, 2, 3]), (1, [1, 2, 3, 7, 8]), (2, [7, 8, 9, 10]), (3, [34]), (4, [6]), (5, [6])], []⟩ := by kernel_rfl
-- loop.example/g01121/laws.FnExactOfXorshift
theorem fn11 : TT.fn 11 = some Try.f11 := by kernel_rfl
theorem md11 : (TT.an 11).mode = 1 := by kernel_rfl
theorem fi11 : FI.of Try.f11 (TT.an 11) = ⟨[.tmp 8], 78, [(0, [0, 1, 2, 3]), (1, [0, 1, 2, 3, 9, 10]), (2, [0, 1, 2, 3, 9, 10, 11, 12]), (3, [0, 1, 2, 3, 9, 10, 11, 41]), (4, [8]), (5, [0, 1, 2, 3, 9, 10, 11, 13]), (6, [0, 1, 2, 3, 9, 10, 11, 13]), (7, [0, 1, 2, 3, 9, 10, 11, 13, 14]), (8, [0, 1, 2, 3, 9, 10, 11, 13, 14]), (9, [0, 1, 2, 3, 9, 10, 11, 13, 14, 49]), (10, [8]), (11, [0, 1, 2, 3, 9, 10, 11, 13, 52]), (12, [8]), (13, [9, 10, 11, 13, 15, 16]), (14, [11, 13, 69]), (15, [8]), (16, [11, 13, 14]), (17, [13, 14]), (18, [13, 14, 74]), (19, [8]), (20, [77]), (21, [8]), (22, [8])], []⟩ := by kernel_rfl
-- loop.example/g01121/laws.FnExactStepLinear
theorem fn12 : TT.fn 12 = some Try.f12 := by kernel_rfl
theorem md12 : (TT.an 12).mode = 1 := by kernel_rfl
theorem fi12 : FI.of Try.f12 (TT.an 12) = ⟨[.tmp 4], 53, [(0, [1, 2]), (1, [1, 2, 5]), (2, [1, 2, 5]), (3, [1, 2, 17]), (4, [4]), (5, [1, 2, 6, 7, 8]), (6, [1, 2, 6, 7, 8, 9]), (7, [2, 6, 7, 8, 9, 10, 11, 12]), (8, [2, 9, 47]), (9, [4]), (10, [52]), (11, [4]), (12, [4])], [(10, [(0, 2)])]⟩ := by kernel_rfl
-- loop.example/g01121/laws.FnExactLinearBits
theorem fn13 : TT.fn 13 = some Try.f13 := by kernel_rfl
theorem md13 : (TT.an 13).mode = 1 := by kernel_rfl
theorem fi13 : FI.of Try.f13 (TT.an 13) = ⟨[.tmp 6], 48, [(0, [1, 2, 3]), (1, [1, 2, 3, 7]), (2, [1, 2, 3, 7]), (3, [1, 2, 3, 17]), (4, [6]), (5, [1, 2, 3, 8, 9]), (6, [1, 2, 3, 8, 9, 10]), (7, [3, 8, 9, 10, 11, 12]), (8, [3, 10, 42]), (9, [6]), (10, [47]), (11, [6]), (12, [6])], [(10, [(0, 2)])]⟩ := by kernel_rfl
-- loop.example/g01121/laws.FnExactOutputRank
theorem fn14 : TT.fn 14 = some Try.f14 := by kernel_rfl
theorem md14 : (TT.an 14).mode = 1 := by kernel_rfl
theorem fi14 : FI.of Try.f14 (TT.an 14) = ⟨[.tmp 2], 40, [(0, [1]), (1, [1, 3]), (2, [1, 3]), (3, [1, 13]), (4, [2]), (5, [1, 4, 5]), (6, [1, 4, 5, 6]), (7, [1, 4, 5, 6, 7, 8]), (8, [1, 6, 34]), (9, [2]), (10, [39]), (11, [2]), (12, [2])], [(10, [(0, 2)])]⟩ := by kernel_rfl
-- loop.example/g01121/laws.FnExactJumpLinear
theorem fn15 : TT.fn 15 = some Try.f15 := by kernel_rfl
theorem md15 : (TT.an 15).mode = 1 := by kernel_rfl
theorem fi15 : FI.of Try.f15 (TT.an 15) = ⟨[.tmp 6], 48, [(0, [1, 2, 3]), (1, [1, 2, 3, 7]), (2, [1, 2, 3, 7]), (3, [1, 2, 3, 17]), (4, [6]), (5, [1, 2, 3, 8, 9]), (6, [1, 2, 3, 8, 9, 10]), (7, [3, 8, 9, 10, 11, 12]), (8, [3, 10, 42]), (9, [6]), (10, [47]), (11, [6]), (12, [6])], [(10, [(0, 2)])]⟩ := by kernel_rfl
-- loop.example/g01121/laws.FnExactBackLinear
theorem fn16 : TT.fn 16 = some Try.f16 := by kernel_rfl
theorem md16 : (TT.an 16).mode = 1 := by kernel_rfl
theorem fi16 : FI.of Try.f16 (TT.an 16) = ⟨[.tmp 4], 44, [(0, [1, 2]), (1, [1, 2, 5]), (2, [1, 2, 5]), (3, [1, 2, 15]), (4, [4]), (5, [1, 2, 6, 7]), (6, [1, 2, 6, 7, 8]), (7, [2, 6, 7, 8, 9, 10]), (8, [2, 8, 38]), (9, [4]), (10, [43]), (11, [4]), (12, [4])], [(10, [(0, 2)])]⟩ := by kernel_rfl
-- loop.example/g01121/laws.FnLinearSteps
theorem fn17 : TT.fn 17 = some Try.f17 := by kernel_rfl
theorem md17 : (TT.an 17).mode = 1 := by kernel_rfl
theorem fi17 : FI.of Try.f17 (TT.an 17) = ⟨[.tmp 4], 179, [(0, [0, 1]), (1, [0, 1, 33]), (2, [4]), (3, [1, 5]), (4, [1, 5, 6]), (5, [1, 5, 6, 7, 8]), (6, [1, 5, 6, 7, 59]), (7, [4]), (8, [1, 5, 6, 7, 9]), (9, [1, 5, 6, 7, 9, 10]), (10, [1, 5, 6, 7, 9, 10, 62]), (11, [1, 5, 6, 7, 9, 10]), (12, [1, 5, 6, 7, 9, 10, 11, 12]), (13, [1, 5, 6, 7, 9, 10, 11, 12, 13, 14, 15]), (14, [1, 5, 6, 7, 10, 13, 98]), (15, [4]), (16, [1, 5, 6, 7, 9, 10]), (17, [1, 5, 6, 16]), (18, [5, 6, 16, 17]), (19, [5, 6, 16, 17, 18, 19]), (20, [5, 6, 16, 17, 19, 20, 21]), (21, [5, 6, 19, 20, 21, 22, 23]), (22, [5, 6, 149]), (23, [4]), (24, [5, 6, 24, 25]), (25, [5, 6, 24, 25, 27]), (26, [5, 6, 24, 25, 163]), (27, [4]), (28, [5, 6, 24, 165]), (29, [4]), (30, [6, 28, 30]), (31, [4])], []⟩ := by kernel_rfl
-- loop.example/g01121/laws.FnStatesBehind
theorem fn18 : TT.fn 18 = some Try.f18 := by kernel_rfl
theorem md18 : (TT.an 18).mode = 1 := by kernel_rfl
theorem fi18 : FI.of Try.f18 (TT.an 18) = ⟨[.tmp 4], 181, [(0, [0, 1]), (1, [0, 1, 24]), (2, [4]), (3, [1, 5]), (4, [1, 5, 6]), (5, [1, 5, 6, 7]), (6, [1, 5, 6, 7, 31]), (7, [1, 5, 6, 7]), (8, [1, 5, 6, 7]), (9, [5, 6, 8]), (10, [5, 6, 8, 9, 10, 11]), (11, [5, 6, 8, 9, 10, 11, 12, 13]), (12, [5, 6, 8, 9, 10, 11, 12, 13, 14]), (13, [5, 6, 8, 9, 10, 11, 12, 13, 14, 15]), (14, [5, 6, 8, 9, 10, 11, 12, 13, 14, 15, 16]), (15, [5, 6, 8, 9, 10, 11, 12, 13, 14, 15, 16, 17]), (16, [5, 6, 8, 9, 10, 11, 12, 13, 14, 15, 16, 17, 69]), (17, [5, 6, 8, 9, 10, 11, 12, 13, 14, 15, 16, 17]), (18, [5, 6, 8, 9, 10, 11, 12, 13, 14, 15, 16, 17, 18, 19]), (19, [5, 6, 8, 9, 10, 11, 12, 13, 14, 15, 16, 17, 18, 84]), (20, [4]), (21, [5, 6, 8, 9, 10, 11, 12, 13, 14, 15, 16, 17, 18, 20]), (22, [5, 6, 8, 9, 10, 11, 12, 13, 14, 15, 16, 17, 18, 20, 21]), (23, [5, 6, 8, 9, 10, 11, 12, 13, 14, 15, 16, 17, 18, 20, 21, 88]), (24, [5, 6, 8, 9, 10, 11, 12, 13, 14, 15, 16, 17, 18, 20, 21]), (25, [5, 6, 8, 9, 10, 11, 12, 13, 14, 15, 16, 17, 18, 20, 21]), (26, [5, 6, 8, 9, 10, 11, 12, 13, 14, 15, 16, 17, 18, 110]), (27, [5, 6, 8, 9, 10, 11, 12, 13, 14, 15, 16, 17, 18, 112]), (28, [5, 6, 8, 9, 10, 11, 12, 13, 14, 15, 16, 17, 18]), (29, [5, 6, 8, 9, 10, 11, 12, 13, 14, 15, 16, 17, 18]), (30, [5, 6, 8, 9, 10, 11, 12, 13, 14, 15, 16, 17]), (31, [12, 13, 14, 16, 149]), (32, [4]), (33, [12, 13, 16, 162]), (34, [4]), (35, [4])], []⟩ := by kernel_rfl
-- loop.example/g01121/laws.FnOutputRank
theorem fn19 : TT.fn 19 = some Try.f19 := by kernel_rfl
theorem md19 : (TT.an 19).mode = 1 := by kernel_rfl
theorem fi19 : FI.of Try.f19 (TT.an 19) = ⟨[.tmp 4], 111, [(0, [0, 1]), (1, [0, 1, 19]), (2, [4]), (3, [1, 5]), (4, [1, 5, 6, 7]), (5, [1, 5, 6, 38]), (6, [4]), (7, [1, 5, 6, 8]), (8, [5, 6, 8, 9]), (9, [5, 6, 9, 10, 11]), (10, [5, 6, 10, 11, 12, 13]), (11, [5, 6, 10, 91]), (12, [4]), (13, [5, 6, 15, 16]), (14, [4])], [(13, [(0, 4)])]⟩ := by kernel_rfl
-- loop.example/g01121/laws.FnExactPredictBit
theorem fn20 : TT.fn 20 = some Try.f20 := by kernel_rfl
theorem md20 : (TT.an 20).mode = 1 := by kernel_rfl
theorem fi20 : FI.of Try.f20 (TT.an 20) = ⟨[.tmp 6], 62, [(0, [1, 2, 3]), (1, [1, 2, 3, 7]), (2, [1, 2, 3, 7]), (3, [1, 2, 3, 7, 18]), (4, [6]), (5, [1, 2, 3, 7]), (6, [1, 2, 3, 23]), (7, [6]), (8, [1, 2, 3, 8, 9]), (9, [1, 2, 3, 8, 9, 10]), (10, [1, 2, 3, 8, 9, 10, 11]), (11, [1, 3, 8, 9, 10, 11, 12, 13]), (12, [1, 3, 10, 11, 51]), (13, [6]), (14, [1, 11, 56]), (15, [6]), (16, [61]), (17, [6]), (18, [6])], [(14, [(0, 2)])]⟩ := by kernel_rfl
-- loop.example/g01121/laws.FnExactStatesBehind
theorem fn21 : TT.fn 21 = some Try.f21 := by kernel_rfl
theorem md21 : (TT.an 21).mode = 1 := by kernel_rfl
theorem fi21 : FI.of Try.f21 (TT.an 21) = ⟨[.tmp 4], 67, [(0, [1, 2]), (1, [1, 2, 5]), (2, [1, 2, 5]), (3, [1, 2, 5, 18]), (4, [4]), (5, [1, 2, 5]), (6, [1, 2, 23]), (7, [4]), (8, [1, 2, 6, 7, 8]), (9, [1, 2, 6, 7, 8, 9]), (10, [1, 2, 6, 7, 8, 9, 10]), (11, [1, 2, 6, 7, 8, 9, 10, 11, 12, 13]), (12, [1, 2, 9, 10, 56]), (13, [4]), (14, [1, 10, 61]), (15, [4]), (16, [66]), (17, [4]), (18, [4])], [(14, [(0, 2)])]⟩ := by kernel_rfl
-- loop.example/g01121/spec.TemperWord
theorem fn22 : TT.fn 22 = some Try.f22 := by kernel_rfl
theorem md22 : (TT.an 22).mode = 1 := by kernel_rfl
theorem fi22 : FI.of Try.f22 (TT.an 22) = ⟨[.tmp 4, .tmp 5], 48, [(0, [1, 2]), (1, [1, 2, 12]), (2, [4, 5]), (3, [1, 2]), (4, [1, 2]), (5, [1, 2]), (6, [1]), (7, [4, 5])], []⟩ := by kernel_rfl
-- loop.example/g01121/laws.toTemper
theorem fn23 : TT.fn 23 = some Try.f23 := by kernel_rfl
theorem md23 : (TT.an 23).mode = 1 := by kernel_rfl
theorem fi23 : FI.of Try.f23 (TT.an 23) = ⟨[.cell 2 26], 23, [(0, [1, 2]), (1, [1, 2, 3]), (2, [1, 2, 3]), (3, [1, 2, 3]), (4, [1, 2, 3]), (5, [1, 2, 3]), (6, [1, 2, 3]), (7, [2, 3]), (8, [2])], []⟩ := by kernel_rfl
-- loop.example/g01121/impl.TemperWord
theorem fn24 : TT.fn 24 = some Try.f24 := by kernel_rfl
theorem md24 : (TT.an 24).mode = 1 := by kernel_rfl
theorem fi24 : FI.of Try.f24 (TT.an 24) = ⟨[.tmp 4, .tmp 5], 27, [(0, [1, 2]), (1, [1, 2, 11]), (2, [4, 5]), (3, [1, 13, 14]), (4, [1, 13, 14, 15]), (5, [1, 7, 13, 14]), (6, [1, 13, 14]), (7, [1, 13, 14]), (8, [4, 5])], []⟩ := by kernel_rfl
-- loop.example/g01121/laws.r8Long
theorem fn25 : TT.fn 25 = some Try.f25 := by kernel_rfl
theorem md25 : (TT.an 25).mode = 1 := by kernel_rfl
theorem fi25 : FI.of Try.f25 (TT.an 25) = ⟨[.tmp 4], 13, [(0, [0, 1]), (1, [4])], []⟩ := by kernel_rfl
-- loop.example/g01121/spec.R8Number
theorem fn26 : TT.fn 26 = some Try.f26 := by kernel_rfl
theorem md26 : (TT.an 26).mode = 1 := by kernel_rfl
theorem fi26 : FI.of Try.f26 (TT.an 26) = ⟨[.tmp 4], 11, [(0, [0, 1]), (1, [1, 5]), (2, [4])], []⟩ := by kernel_rfl
-- loop.example/g01121/laws.r8At
theorem fn27 : TT.fn 27 = some Try.f27 := by kernel_rfl
theorem md27 : (TT.an 27).mode = 1 := by kernel_rfl
theorem fi27 : FI.of Try.f27 (TT.an 27) = ⟨[.tmp 6], 22, [(0, [0, 1, 2]), (1, [0, 1, 2, 14]), (2, [6]), (3, [6])], []⟩ := by kernel_rfl
-- loop.example/g01121/impl.SeedsBehind
theorem fn28 : TT.fn 28 = some Try.f28 := by kernel_rfl
theorem md28 : (TT.an 28).mode = 2 := by kernel_rfl
theorem fi28 : FI.of Try.f28 (TT.an 28) = ⟨[.tmp 6, .tmp 7], 63, [(0, [0, 1, 2]), (1, [0, 1, 2, 28]), (2, [6, 7]), (3, [0, 1, 2, 8]), (4, [0, 1, 2, 8, 30]), (5, [0, 1, 2, 8, 30, 31]), (6, [0, 1, 2, 8, 9, 30]), (7, [0, 1, 2, 8, 9, 10, 11, 30]), (8, [0, 1, 2, 8, 9, 10, 11, 12, 30]), (9, [0, 1, 2, 8, 9, 10, 11, 12, 30, 40]), (10, [0, 1, 2, 8, 9, 10, 11, 12, 30]), (11, [0, 1, 2, 8, 9, 10, 11, 12, 30]), (12, [0, 1, 2, 8, 9, 10, 11, 12, 30]), (13, [0, 1, 2, 8, 9, 30, 56]), (14, [0, 1, 2, 8, 30]), (15, [0, 1, 2, 8, 30]), (16, [6, 7])], []⟩ := by kernel_rfl
-- loop.example/g01121/laws.r8Has
theorem fn29 : TT.fn 29 = some Try.f29 := by kernel_rfl
theorem md29 : (TT.an 29).mode = 1 := by kernel_rfl
theorem fi29 : FI.of Try.f29 (TT.an 29) = ⟨[.tmp 4], 18, [(0, [0, 1]), (1, [0, 1, 5]), (2, [0, 1, 5, 9]), (3, [0, 1, 5]), (4, [0, 1, 5, 17]), (5, [4]), (6, [4])], []⟩ := by kernel_rfl
-- loop.example/g01121/laws.szLinear
theorem fn30 : TT.fn 30 = some Try.f30 := by kernel_rfl
theorem md30 : (TT.an 30).mode = 1 := by kernel_rfl
theorem fi30 : FI.of Try.f30 (TT.an 30) = ⟨[.tmp 4], 12, [(0, [1, 2]), (1, [1]), (2, [1, 10]), (3, [4]), (4, [4])], []⟩ := by kernel_rfl
-- loop.example/g01121/spec.ValidLinear
theorem fn31 : TT.fn 31 = some Try.f31 := by kernel_rfl
theorem md31 : (TT.an 31).mode = 1 := by kernel_rfl
theorem fi31 : FI.of Try.f31 (TT.an 31) = ⟨[.tmp 2], 4, [(0, [1]), (1, [2])], []⟩ := by kernel_rfl
-- loop.example/g01121/laws.toLinear
theorem fn32 : TT.fn 32 = some Try.f32 := by kernel_rfl
theorem md32 : (TT.an 32).mode = 1 := by kernel_rfl
theorem fi32 : FI.of Try.f32 (TT.an 32) = ⟨[.cell 2 41], 15, [(0, [1, 2]), (1, [1, 2, 3]), (2, [1, 2, 3]), (3, [1, 2, 3]), (4, [2, 3]), (5, [2])], []⟩ := by kernel_rfl
-- loop.example/g01121/impl.ValidLinear
theorem fn33 : TT.fn 33 = some Try.f33 := by kernel_rfl
theorem md33 : (TT.an 33).mode = 1 := by kernel_rfl
theorem fi33 : FI.of Try.f33 (TT.an 33) = ⟨[.tmp 2], 32, [(0, [1]), (1, [2])], [(1, [(8, 6)])]⟩ := by kernel_rfl
-- loop.example/g01121/laws.eqLinear
theorem fn34 : TT.fn 34 = some Try.f34 := by kernel_rfl
theorem md34 : (TT.an 34).mode = 1 := by kernel_rfl
theorem fi34 : FI.of Try.f34 (TT.an 34) = ⟨[.tmp 4], 21, [(0, [2, 3]), (1, [2, 3, 9]), (2, [4]), (3, [2, 3, 15]), (4, [4]), (5, [20]), (6, [4]), (7, [4])], []⟩ := by kernel_rfl
-- loop.example/g01121/spec.OfRegister
theorem fn35 : TT.fn 35 = some Try.f35 := by kernel_rfl
theorem md35 : (TT.an 35).mode = 2 := by kernel_rfl
theorem fi35 : FI.of Try.f35 (TT.an 35) = ⟨[.cell 2 41, .tmp 3], 40, [(0, [1, 2]), (1, [1, 2, 12]), (2, [2, 3]), (3, [1, 2, 4]), (4, [1, 2, 4, 5]), (5, [1, 2, 4, 5, 21]), (6, [1, 2, 4, 5]), (7, [1, 2, 4, 5]), (8, [2, 4]), (9, [2, 3])], []⟩ := by kernel_rfl
-- loop.example/g01121/laws.toRegister
theorem fn36 : TT.fn 36 = some Try.f36 := by kernel_rfl
theorem md36 : (TT.an 36).mode = 1 := by kernel_rfl
theorem fi36 : FI.of Try.f36 (TT.an 36) = ⟨[.cell 2 49], 11, [(0, [1, 2]), (1, [1, 2, 3]), (2, [1, 2, 3]), (3, [2, 3]), (4, [2])], []⟩ := by kernel_rfl
-- loop.example/g01121/impl.OfRegister
theorem fn37 : TT.fn 37 = some Try.f37 := by kernel_rfl
theorem md37 : (TT.an 37).mode = 2 := by kernel_rfl
theorem fi37 : FI.of Try.f37 (TT.an 37) = ⟨[.cell 2 41, .tmp 3], 41, [(0, [1, 2]), (1, [1, 2, 13]), (2, [2, 3]), (3, [1, 2, 4]), (4, [1, 2, 4, 20, 21]), (5, [1, 2, 4, 20, 21, 22]), (6, [1, 2, 4, 5, 20, 21]), (7, [1, 2, 4, 20, 21]), (8, [1, 2, 4, 20, 21]), (9, [2, 4]), (10, [2, 3])], [(7, [(1, 5)])]⟩ := by kernel_rfl
-- loop.example/g01121/laws.markLinear
theorem fn38 : TT.fn 38 = some Try.f38 := by kernel_rfl
theorem md38 : (TT.an 38).mode = 0 := by kernel_rfl
theorem fi38 : FI.of Try.f38 (TT.an 38) = ⟨[.tmp 4], 10, [(0, [1, 2]), (1, [1]), (2, [4])], []⟩ := by kernel_rfl
-- loop.example/g01121/laws.heldLinear
theorem fn39 : TT.fn 39 = some Try.f39 := by kernel_rfl
theorem md39 : (TT.an 39).mode = 1 := by kernel_rfl
theorem fi39 : FI.of Try.f39 (TT.an 39) = ⟨[.tmp 4], 12, [(0, [1, 2]), (1, [1]), (2, [1, 10]), (3, [4]), (4, [4])], []⟩ := by kernel_rfl
-- loop.example/g01121/spec.UntemperWord
theorem fn40 : TT.fn 40 = some Try.f40 := by kernel_rfl
theorem md40 : (TT.an 40).mode = 1 := by kernel_rfl
theorem fi40 : FI.of Try.f40 (TT.an 40) = ⟨[.tmp 4, .tmp 5], 35, [(0, [1, 2]), (1, [1, 2, 12]), (2, [4, 5]), (3, [1, 2]), (4, [1, 2]), (5, [1, 2]), (6, [4, 5])], []⟩ := by kernel_rfl
-- loop.example/g01121/impl.UntemperWord
theorem fn41 : TT.fn 41 = some Try.f41 := by kernel_rfl
theorem md41 : (TT.an 41).mode = 1 := by kernel_rfl
theorem fi41 : FI.of Try.f41 (TT.an 41) = ⟨[.tmp 4, .tmp 5], 34, [(0, [2, 3]), (1, [2, 3, 13]), (2, [4, 5]), (3, [3, 6]), (4, [3]), (12, [4, 5])], [(9, [(0, 6)])]⟩ := by kernel_rfl
-- loop.example/g01121/spec.SeedsBehind
theorem fn42 : TT.fn 42 = some Try.f42 := by kernel_rfl
theorem md42 : (TT.an 42).mode = 2 := by kernel_rfl
theorem fi42 : FI.of Try.f42 (TT.an 42) = ⟨[.tmp 6, .tmp 7], 81, [(0, [0, 1, 2]), (1, [0, 1, 2, 28]), (2, [6, 7]), (3, [0, 1, 2, 8]), (4, [0, 1, 2, 8, 32]), (5, [0, 1, 2, 8]), (6, [0, 1, 2, 8, 40]), (7, [6, 7]), (8, [0, 1, 2, 9]), (9, [0, 1, 2, 9, 10]), (10, [0, 1, 2, 9, 10, 43]), (11, [0, 1, 2, 9, 10]), (12, [0, 1, 2, 9, 10, 11]), (13, [0, 1, 2, 9, 10, 11, 12]), (14, [0, 1, 2, 9, 10, 11, 12, 13]), (15, [0, 1, 2, 9, 10, 11, 12, 13, 14]), (16, [0, 1, 2, 9, 10, 11, 12, 13, 14, 56]), (17, [0, 1, 2, 9, 10, 11, 12, 13, 14]), (18, [0, 1, 2, 9, 10, 11, 12, 13, 14]), (19, [0, 1, 2, 9, 10, 11, 12, 13, 14]), (20, [0, 1, 2, 9, 10, 11, 75]), (21, [0, 1, 2, 9, 10]), (22, [6, 7])], []⟩ := by kernel_rfl
-- loop.example/g01121/laws.toInt64S
theorem fn43 : TT.fn 43 = some Try.f43 := by kernel_rfl
theorem md43 : (TT.an 43).mode = 2 := by kernel_rfl
theorem fi43 : FI.of Try.f43 (TT.an 43) = ⟨[.tmp 2], 22, [(0, [0]), (1, [0, 3]), (2, [0, 3, 4]), (3, [0, 3, 4, 11]), (4, [0, 3, 4]), (5, [0, 3, 4]), (6, [2])], []⟩ := by kernel_rfl
-- loop.example/g01121/laws.eqInt64S
theorem fn44 : TT.fn 44 = some Try.f44 := by kernel_rfl
theorem md44 : (TT.an 44).mode = 1 := by kernel_rfl
theorem fi44 : FI.of Try.f44 (TT.an 44) = ⟨[.tmp 4], 26, [(0, [0, 1]), (1, [0, 1, 10]), (2, [4]), (3, [0, 1, 5]), (4, [0, 1, 5, 14]), (5, [0, 1, 5]), (6, [0, 1, 5, 25]), (7, [4]), (8, [4])], []⟩ := by kernel_rfl
-- loop.example/g01121/laws.markInt64S
theorem fn45 : TT.fn 45 = some Try.f45 := by kernel_rfl
theorem md45 : (TT.an 45).mode = 0 := by kernel_rfl
theorem fi45 : FI.of Try.f45 (TT.an 45) = ⟨[.tmp 4], 19, [(0, [0, 1]), (1, [0, 1, 5]), (2, [0, 1, 5, 9]), (3, [0, 1, 5]), (4, [0, 1, 5]), (5, [0, 1, 5]), (6, [4])], []⟩ := by kernel_rfl
-- loop.example/g01121/laws.heldInt64S
theorem fn46 : TT.fn 46 = some Try.f46 := by kernel_rfl
theorem md46 : (TT.an 46).mode = 1 := by kernel_rfl
theorem fi46 : FI.of Try.f46 (TT.an 46) = ⟨[.tmp 4], 21, [(0, [0, 1]), (1, [0, 1, 5]), (2, [0, 1, 5, 9]), (3, [0, 1, 5]), (4, [0, 1, 5, 17]), (5, [4]), (6, [0, 1, 5]), (7, [4])], []⟩ := by kernel_rfl
-- loop.example/g01121/spec.R8Temper
theorem fn47 : TT.fn 47 = some Try.f47 := by kernel_rfl
theorem md47 : (TT.an 47).mode = 1 := by kernel_rfl
theorem fi47 : FI.of Try.f47 (TT.an 47) = ⟨[.cell 2 26], 30, [(0, [0, 2]), (1, [2, 3]), (2, [2, 3, 4]), (3, [2, 3, 4]), (4, [2, 3, 4]), (5, [2, 3, 4]), (6, [2, 3, 4]), (7, [2, 4]), (8, [2])], []⟩ := by kernel_rfl
-- loop.example/g01121/impl.ValidTemper
theorem fn48 : TT.fn 48 = some Try.f48 := by kernel_rfl
theorem md48 : (TT.an 48).mode = 1 := by kernel_rfl
theorem fi48 : FI.of Try.f48 (TT.an 48) = ⟨[.tmp 2], 21, [(0, [1]), (1, [2])], []⟩ := by kernel_rfl
-- loop.example/g01121/spec.RegisterBits
theorem fn49 : TT.fn 49 = some Try.f49 := by kernel_rfl
theorem md49 : (TT.an 49).mode = 1 := by kernel_rfl
theorem fi49 : FI.of Try.f49 (TT.an 49) = ⟨[.tmp 6, .tmp 7], 19, [(0, [1, 2, 3]), (1, [1, 2, 3, 15]), (2, [6, 7]), (3, [6, 7])], []⟩ := by kernel_rfl
-- loop.example/g01121/impl.RegisterBits
theorem fn50 : TT.fn 50 = some Try.f50 := by kernel_rfl
theorem md50 : (TT.an 50).mode = 1 := by kernel_rfl
theorem fi50 : FI.of Try.f50 (TT.an 50) = ⟨[.tmp 6, .tmp 7], 27, [(0, [1, 2, 3]), (1, [1, 2, 3, 18]), (2, [6, 7]), (3, [8]), (4, [6, 7])], []⟩ := by kernel_rfl
-- loop.example/g01121/spec.OfXorshift
theorem fn51 : TT.fn 51 = some Try.f51 := by kernel_rfl
theorem md51 : (TT.an 51).mode = 2 := by kernel_rfl
theorem fi51 : FI.of Try.f51 (TT.an 51) = ⟨[.cell 8 41, .tmp 9], 88, [(0, [0, 1, 2, 3, 8]), (1, [0, 1, 2, 3, 8, 34]), (2, [8, 9]), (3, [0, 1, 2, 3, 8, 10]), (4, [0, 1, 2, 3, 8, 10, 11]), (5, [0, 1, 2, 3, 8, 10, 11, 42]), (6, [0, 1, 2, 3, 8, 10, 11]), (7, [0, 1, 2, 3, 8, 10, 11, 12]), (8, [0, 1, 2, 3, 8, 10, 11, 12]), (9, [0, 1, 2, 3, 8, 10, 11, 12]), (10, [0, 1, 2, 3, 8, 10, 11, 12]), (11, [0, 1, 2, 3, 8, 10, 11, 12, 13]), (12, [0, 1, 2, 3, 8, 10, 11, 12, 13, 69]), (13, [0, 1, 2, 3, 8, 10, 11, 12, 13]), (14, [0, 1, 2, 3, 8, 10, 11, 12, 13]), (15, [8, 9])], []⟩ := by kernel_rfl
-- loop.example/g01121/impl.OfXorshift
theorem fn52 : TT.fn 52 = some Try.f52 := by kernel_rfl
theorem md52 : (TT.an 52).mode = 2 := by kernel_rfl
theorem fi52 : FI.of Try.f52 (TT.an 52) = ⟨[.cell 8 41, .tmp 9], 76, [(0, [0, 1, 2, 3, 8]), (1, [0, 1, 2, 3, 8, 28]), (2, [8, 9]), (3, [0, 1, 2, 3, 8, 10]), (4, [0, 2, 8, 10, 36, 37]), (5, [0, 2, 8, 10, 36, 37, 38]), (6, [0, 2, 8, 10, 11, 12, 36, 37]), (7, [0, 2, 8, 10, 11, 12, 13, 36, 37]), (8, [0, 2, 8, 10, 11, 12, 13, 36, 37, 42, 43]), (9, [0, 2, 8, 10, 11, 12, 13, 36, 37, 42, 43, 44]), (10, [0, 2, 8, 10, 11, 12, 13, 14, 36, 37, 42, 43]), (11, [0, 2, 8, 10, 11, 12, 13, 14, 15, 36, 37, 42, 43]), (12, [0, 2, 8, 10, 11, 12, 13, 14, 15, 36, 37, 42, 43, 50]), (13, [0, 2, 8, 10, 11, 12, 13, 14, 15, 36, 37, 42, 43]), (14, [0, 2, 8, 10, 11, 12, 13, 15, 16, 36, 37, 42, 43]), (15, [0, 2, 8, 10, 11, 12, 13, 15, 16, 36, 37, 42, 43, 59]), (16, [0, 2, 8, 10, 11, 12, 13, 16, 36, 37, 42, 43]), (17, [0, 2, 8, 10, 11, 12, 13, 36, 37, 42, 43]), (18, [0, 2, 8, 10, 11, 12, 13, 36, 37, 42, 43]), (19, [0, 2, 8, 10, 36, 37]), (20, [0, 2, 8, 10, 36, 37]), (21, [8, 9])], []⟩ := by kernel_rfl
-- loop.example/g01121/spec.StepLinear
theorem fn53 : TT.fn 53 = some Try.f53 := by kernel_rfl
theorem md53 : (TT.an 53).mode = 1 := by kernel_rfl
theorem fi53 : FI.of Try.f53 (TT.an 53) = ⟨[.tmp 4, .tmp 5, .tmp 6], 19, [(0, [1, 2]), (1, [1, 2, 11]), (2, [4, 5, 6]), (3, [7, 8]), (4, [4, 5, 6])], []⟩ := by kernel_rfl
-- loop.example/g01121/impl.StepLinear
theorem fn54 : TT.fn 54 = some Try.f54 := by kernel_rfl
theorem md54 : (TT.an 54).mode = 1 := by kernel_rfl
theorem fi54 : FI.of Try.f54 (TT.an 54) = ⟨[.tmp 4, .tmp 5, .tmp 6], 20, [(0, [1, 2]), (1, [1, 2, 10]), (2, [4, 5, 6]), (3, [4, 5, 6])], [(3, [(5, 3)])]⟩ := by kernel_rfl
-- loop.example/g01121/spec.LinearBits
theorem fn55 : TT.fn 55 = some Try.f55 := by kernel_rfl
theorem md55 : (TT.an 55).mode = 1 := by kernel_rfl
theorem fi55 : FI.of Try.f55 (TT.an 55) = ⟨[.tmp 6, .tmp 7], 19, [(0, [1, 2, 3]), (1, [1, 2, 3, 15]), (2, [6, 7]), (3, [6, 7])], []⟩ := by kernel_rfl
-- loop.example/g01121/impl.LinearBits
theorem fn56 : TT.fn 56 = some Try.f56 := by kernel_rfl
theorem md56 : (TT.an 56).mode = 1 := by kernel_rfl
theorem fi56 : FI.of Try.f56 (TT.an 56) = ⟨[.tmp 6, .tmp 7], 21, [(0, [1, 2, 3]), (1, [1, 2, 3, 16]), (2, [6, 7]), (3, [6, 7])], []⟩ := by kernel_rfl
-- loop.example/g01121/spec.OutputRank
theorem fn57 : TT.fn 57 = some Try.f57 := by kernel_rfl
theorem md57 : (TT.an 57).mode = 1 := by kernel_rfl
theorem fi57 : FI.of Try.f57 (TT.an 57) = ⟨[.tmp 2, .tmp 3], 10, [(0, [1]), (1, [1, 5]), (2, [2, 3]), (3, [2, 3])], []⟩ := by kernel_rfl
-- loop.example/g01121/impl.OutputRank
theorem fn58 : TT.fn 58 = some Try.f58 := by kernel_rfl
theorem md58 : (TT.an 58).mode = 1 := by kernel_rfl
theorem fi58 : FI.of Try.f58 (TT.an 58) = ⟨[.tmp 2, .tmp 3], 22, [(0, [1]), (1, [1, 7]), (2, [2, 3]), (3, [1, 4]), (4, [4]), (5, [2, 3])], []⟩ := by kernel_rfl
-- loop.example/g01121/spec.JumpLinear
theorem fn59 : TT.fn 59 = some Try.f59 := by kernel_rfl
theorem md59 : (TT.an 59).mode = 1 := by kernel_rfl
theorem fi59 : FI.of Try.f59 (TT.an 59) = ⟨[.tmp 6, .tmp 7], 22, [(0, [1, 2, 3]), (1, [1, 2, 3, 15]), (2, [6, 7]), (3, [6, 7])], []⟩ := by kernel_rfl
-- loop.example/g01121/impl.JumpLinear
theorem fn60 : TT.fn 60 = some Try.f60 := by kernel_rfl
theorem md60 : (TT.an 60).mode = 1 := by kernel_rfl
theorem fi60 : FI.of Try.f60 (TT.an 60) = ⟨[.tmp 6, .tmp 7], 34, [(0, [1, 2, 3]), (1, [1, 2, 3, 17]), (2, [6, 7]), (3, [1, 2, 8]), (4, [1, 2, 8, 21]), (5, [1, 2, 8]), (6, [1, 2, 8, 26]), (7, [1, 2, 8]), (8, [1, 2, 8]), (9, [6, 7])], []⟩ := by kernel_rfl
-- loop.example/g01121/spec.BackLinear
theorem fn61 : TT.fn 61 = some Try.f61 := by kernel_rfl
theorem md61 : (TT.an 61).mode = 1 := by kernel_rfl
theorem fi61 : FI.of Try.f61 (TT.an 61) = ⟨[.tmp 4, .tmp 5], 54, [(0, [1, 2]), (1, [1, 2, 13]), (2, [4, 5]), (3, [1, 2, 6]), (4, [1, 2, 6, 7]), (5, [1, 2, 6, 7, 18]), (6, [1, 2, 6, 7]), (7, [1, 2, 6, 7]), (8, [8, 9, 10]), (9, [8, 52]), (10, [4, 5]), (11, [4, 5])], []⟩ := by kernel_rfl
-- loop.example/g01121/impl.BackLinear
theorem fn62 : TT.fn 62 = some Try.f62 := by kernel_rfl
theorem md62 : (TT.an 62).mode = 1 := by kernel_rfl
theorem fi62 : FI.of Try.f62 (TT.an 62) = ⟨[.tmp 4, .tmp 5], 44, [(0, [1, 2]), (1, [1, 2, 12]), (2, [4, 5]), (3, [1, 2, 6]), (4, [1, 2, 6, 18, 19, 20]), (5, [1, 2, 6, 18, 19, 20, 21]), (6, [1, 2, 6, 7, 8, 18, 19, 20]), (7, [1, 2, 6, 18, 19, 20, 32]), (8, [4, 5]), (9, [1, 2, 6, 18, 19, 20]), (10, [6, 41]), (11, [4, 5]), (12, [4, 5])], [(10, [(6, 4)])]⟩ := by kernel_rfl
-- loop.example/g01121/spec.R8Linear
theorem fn63 : TT.fn 63 = some Try.f63 := by kernel_rfl
theorem md63 : (TT.an 63).mode = 1 := by kernel_rfl
theorem fi63 : FI.of Try.f63 (TT.an 63) = ⟨[.cell 2 41], 40, [(0, [0, 2]), (1, [2, 3]), (2, [2, 3, 4]), (3, [2, 3, 4, 15]), (4, [2, 3, 4, 5]), (5, [2, 3, 4, 5, 6]), (6, [2, 3, 4, 7, 8]), (7, [2, 3, 4, 7, 35]), (8, [2]), (9, [2])], []⟩ := by kernel_rfl
-- loop.example/g01121/impl.StatesBehind
theorem fn64 : TT.fn 64 = some Try.f64 := by kernel_rfl
theorem md64 : (TT.an 64).mode = 1 := by kernel_rfl
theorem fi64 : FI.of Try.f64 (TT.an 64) = ⟨[.tmp 4, .tmp 5, .tmp 6], 37, [(0, [1, 2]), (1, [1, 2, 17]), (2, [4, 5, 6]), (3, [2, 7, 9]), (4, [2, 7, 26]), (5, [4, 5, 6]), (6, [4, 5, 6])], [(6, [(3, 1), (7, 1), (3, 8)])]⟩ := by kernel_rfl
-- loop.example/g01121/impl.PredictBit
theorem fn65 : TT.fn 65 = some Try.f65 := by kernel_rfl
theorem md65 : (TT.an 65).mode = 1 := by kernel_rfl
theorem fi65 : FI.of Try.f65 (TT.an 65) = ⟨[.tmp 6, .tmp 7], 48, [(0, [1, 2, 3]), (1, [1, 2, 3, 24]), (2, [6, 7]), (3, [8, 9, 10]), (4, [8, 9, 34]), (5, [6, 7]), (6, [8, 11]), (7, [8, 11, 41]), (8, [6, 7]), (9, [6, 7])], []⟩ := by kernel_rfl
-- loop.example/g01121/laws.r8Seen
theorem fn66 : TT.fn 66 = some Try.f66 := by kernel_rfl
theorem md66 : (TT.an 66).mode = 1 := by kernel_rfl
theorem fi66 : FI.of Try.f66 (TT.an 66) = ⟨[.tmp 2], 23, [(0, [0]), (1, [0, 3]), (2, [0, 3, 4]), (3, [0, 3, 4, 9]), (4, [0, 3, 4]), (5, [0, 3, 4]), (6, [2])], []⟩ := by kernel_rfl
-- loop.example/g01121/laws.szSeenS
theorem fn67 : TT.fn 67 = some Try.f67 := by kernel_rfl
theorem md67 : (TT.an 67).mode = 1 := by kernel_rfl
theorem fi67 : FI.of Try.f67 (TT.an 67) = ⟨[.tmp 4], 12, [(0, [0, 1]), (1, [1]), (2, [1, 10]), (3, [4]), (4, [4])], []⟩ := by kernel_rfl
-- loop.example/g01121/spec.PredictBit
theorem fn68 : TT.fn 68 = some Try.f68 := by kernel_rfl
theorem md68 : (TT.an 68).mode = 1 := by kernel_rfl
theorem fi68 : FI.of Try.f68 (TT.an 68) = ⟨[.tmp 6, .tmp 7], 52, [(0, [1, 2, 3]), (1, [1, 2, 3, 18]), (2, [6, 7]), (3, [2, 3, 8, 9]), (4, [2, 3, 8, 25]), (5, [6, 7]), (6, [2, 3, 8, 10]), (7, [10, 11]), (8, [11, 50]), (9, [6, 7]), (10, [51]), (11, [6, 7]), (12, [6, 7])], [(6, [(8, 1), (8, 4), (8, 5), (8, 6)]), (7, [(8, 1), (8, 4), (8, 5), (8, 6)])]⟩ := by kernel_rfl
-- loop.example/g01121/laws.toSeenS
theorem fn69 : TT.fn 69 = some Try.f69 := by kernel_rfl
theorem md69 : (TT.an 69).mode = 1 := by kernel_rfl
theorem fi69 : FI.of Try.f69 (TT.an 69) = ⟨[.tmp 2], 23, [(0, [0]), (1, [0, 3]), (2, [0, 3, 4]), (3, [0, 3, 4, 11]), (4, [0, 3, 4]), (5, [0, 3, 4]), (6, [2])], []⟩ := by kernel_rfl
-- loop.example/g01121/laws.eqSeenS
theorem fn70 : TT.fn 70 = some Try.f70 := by kernel_rfl
theorem md70 : (TT.an 70).mode = 1 := by kernel_rfl
theorem fi70 : FI.of Try.f70 (TT.an 70) = ⟨[.tmp 4], 27, [(0, [0, 1]), (1, [0, 1, 10]), (2, [4]), (3, [0, 1, 5]), (4, [0, 1, 5, 14]), (5, [0, 1, 5]), (6, [0, 1, 5, 26]), (7, [4]), (8, [4])], []⟩ := by kernel_rfl
-- loop.example/g01121/spec.StatesBehind
theorem fn71 : TT.fn 71 = some Try.f71 := by kernel_rfl
theorem md71 : (TT.an 71).mode = 1 := by kernel_rfl
theorem fi71 : FI.of Try.f71 (TT.an 71) = ⟨[.tmp 4, .tmp 5, .tmp 6], 25, [(0, [1, 2]), (1, [1, 2, 10]), (2, [4, 5, 6]), (3, [2, 7, 8]), (4, [2, 7, 17]), (5, [4, 5, 6]), (6, [4, 5, 6])], []⟩ := by kernel_rfl
-- loop.example/g01121/spec.l08Temper
theorem fn72 : TT.fn 72 = some Try.f72 := by kernel_rfl
theorem md72 : (TT.an 72).mode = 0 := by kernel_rfl
theorem fi72 : FI.of Try.f72 (TT.an 72) = ⟨[.tmp 2], 43, [(0, [0]), (1, [2])], []⟩ := by kernel_rfl
-- loop.example/g01121/spec.l08Word
theorem fn73 : TT.fn 73 = some Try.f73 := by kernel_rfl
theorem md73 : (TT.an 73).mode = 1 := by kernel_rfl
theorem fi73 : FI.of Try.f73 (TT.an 73) = ⟨[.tmp 2], 5, [(0, [0]), (1, [2])], []⟩ := by kernel_rfl
-- loop.example/g01121/impl.isWord
theorem fn74 : TT.fn 74 = some Try.f74 := by kernel_rfl
theorem md74 : (TT.an 74).mode = 1 := by kernel_rfl
theorem fi74 : FI.of Try.f74 (TT.an 74) = ⟨[.tmp 4], 11, [(0, [1, 2]), (1, [4])], []⟩ := by kernel_rfl
-- (loop.example/g01121/impl.Temper).moves
theorem fn75 : TT.fn 75 = some Try.f75 := by kernel_rfl
theorem md75 : (TT.an 75).mode = 1 := by kernel_rfl
theorem fi75 : FI.of Try.f75 (TT.an 75) = ⟨[.cell 2 91], 22, [(0, [1, 2]), (1, [2])], []⟩ := by kernel_rfl
-- loop.example/g01121/impl.moved
theorem fn76 : TT.fn 76 = some Try.f76 := by kernel_rfl
theorem md76 : (TT.an 76).mode = 1 := by kernel_rfl
theorem fi76 : FI.of Try.f76 (TT.an 76) = ⟨[.tmp 6], 21, [(0, [0, 1, 2]), (1, [0, 1, 2, 8]), (2, [6]), (3, [6])], []⟩ := by kernel_rfl
-- loop.example/g01121/spec.l00From
theorem fn77 : TT.fn 77 = some Try.f77 := by kernel_rfl
theorem md77 : (TT.an 77).mode = 0 := by kernel_rfl
theorem fi77 : FI.of Try.f77 (TT.an 77) = ⟨[.tmp 2], 6, [(0, [0]), (1, [2])], []⟩ := by kernel_rfl
-- (*loop.example/g01121/spec.l00Src).pick
theorem fn78 : TT.fn 78 = some Try.f78 := by kernel_rfl
theorem md78 : (TT.an 78).mode = 0 := by kernel_rfl
theorem fi78 : FI.of Try.f78 (TT.an 78) = ⟨[.tmp 4], 20, [(0, [0, 1]), (1, [0, 1, 7]), (2, [4]), (3, [0, 1, 5]), (4, [0, 1, 5, 11]), (5, [1, 5]), (6, [4])], []⟩ := by kernel_rfl
-- loop.example/g01121/impl.allIn
theorem fn79 : TT.fn 79 = some Try.f79 := by kernel_rfl
theorem md79 : (TT.an 79).mode = 1 := by kernel_rfl
theorem fi79 : FI.of Try.f79 (TT.an 79) = ⟨[.tmp 6], 11, [(0, [0, 4, 5]), (1, [6])], []⟩ := by kernel_rfl
-- loop.example/g01121/impl.inRange
theorem fn80 : TT.fn 80 = some Try.f80 := by kernel_rfl
theorem md80 : (TT.an 80).mode = 1 := by kernel_rfl
theorem fi80 : FI.of Try.f80 (TT.an 80) = ⟨[.tmp 6], 15, [(0, [0, 1, 2]), (1, [6])], []⟩ := by kernel_rfl
-- loop.example/g01121/impl.length[int64]
theorem fn81 : TT.fn 81 = some Try.f81 := by kernel_rfl
theorem md81 : (TT.an 81).mode = 1 := by kernel_rfl
theorem fi81 : FI.of Try.f81 (TT.an 81) = ⟨[.tmp 2], 5, [(0, [0]), (1, [2])], []⟩ := by kernel_rfl
-- loop.example/g01121/laws.szInt64S
theorem fn82 : TT.fn 82 = some Try.f82 := by kernel_rfl
theorem md82 : (TT.an 82).mode = 1 := by kernel_rfl
theorem fi82 : FI.of Try.f82 (TT.an 82) = ⟨[.tmp 4], 12, [(0, [0, 1]), (1, [1]), (2, [1, 10]), (3, [4]), (4, [4])], []⟩ := by kernel_rfl
-- loop.example/g01121/spec.l08Is
theorem fn83 : TT.fn 83 = some Try.f83 := by kernel_rfl
theorem md83 : (TT.an 83).mode = 0 := by kernel_rfl
theorem fi83 : FI.of Try.f83 (TT.an 83) = ⟨[.tmp 2], 56, [(0, [0]), (1, [0, 33]), (2, [2]), (3, [0, 3]), (4, [0, 3, 40]), (5, [0, 3]), (6, [0, 3, 55]), (7, [2]), (8, [2])], []⟩ := by kernel_rfl
-- loop.example/g01121/spec.l02Is
theorem fn84 : TT.fn 84 = some Try.f84 := by kernel_rfl
theorem md84 : (TT.an 84).mode = 0 := by kernel_rfl
theorem fi84 : FI.of Try.f84 (TT.an 84) = ⟨[.tmp 2], 19, [(0, [0]), (1, [2])], []⟩ := by kernel_rfl
-- loop.example/g01121/impl.ValidRegister
theorem fn85 : TT.fn 85 = some Try.f85 := by kernel_rfl
theorem md85 : (TT.an 85).mode = 1 := by kernel_rfl
theorem fi85 : FI.of Try.f85 (TT.an 85) = ⟨[.tmp 2], 15, [(0, [1]), (1, [2])], []⟩ := by kernel_rfl
-- loop.example/g01121/spec.l08Undo
theorem fn86 : TT.fn 86 = some Try.f86 := by kernel_rfl
theorem md86 : (TT.an 86).mode = 1 := by kernel_rfl
theorem fi86 : FI.of Try.f86 (TT.an 86) = ⟨[.tmp 6], 22, [(0, [0, 1, 2]), (1, [0, 1, 2, 7]), (2, [0, 1, 2, 7, 8]), (3, [0, 1, 2, 7, 8, 11]), (4, [0, 1, 2, 7, 8]), (5, [0, 1, 2, 7, 8]), (6, [6])], []⟩ := by kernel_rfl
-- slices.Backward[[][2]int64,[2]int64]
theorem fn87 : TT.fn 87 = some Try.f87 := by kernel_rfl
theorem md87 : (TT.an 87).mode = 0 := by kernel_rfl
theorem fi87 : FI.of Try.f87 (TT.an 87) = ⟨[.tmp 2], 4, [(0, [1]), (1, [2])], []⟩ := by kernel_rfl
-- loop.example/g01121/spec.l00In
theorem fn88 : TT.fn 88 = some Try.f88 := by kernel_rfl
theorem md88 : (TT.an 88).mode = 1 := by kernel_rfl
theorem fi88 : FI.of Try.f88 (TT.an 88) = ⟨[.tmp 6], 15, [(0, [0, 1, 2]), (1, [6])], []⟩ := by kernel_rfl
-- loop.example/g01121/spec.l02Both
theorem fn89 : TT.fn 89 = some Try.f89 := by kernel_rfl
theorem md89 : (TT.an 89).mode = 0 := by kernel_rfl
theorem fi89 : FI.of Try.f89 (TT.an 89) = ⟨[.tmp 4], 15, [(0, [0, 1]), (1, [4])], []⟩ := by kernel_rfl
-- loop.example/g01121/spec.l02Bits
theorem fn90 : TT.fn 90 = some Try.f90 := by kernel_rfl
theorem md90 : (TT.an 90).mode = 0 := by kernel_rfl
theorem fi90 : FI.of Try.f90 (TT.an 90) = ⟨[.tmp 6], 32, [(0, [0, 1, 2]), (1, [0, 1, 2, 7]), (2, [0, 1, 2, 7, 8]), (3, [0, 1, 2, 7, 8, 14]), (4, [0, 1, 2, 7, 8]), (5, [0, 2, 7, 8, 9, 10]), (6, [0, 2, 7, 8, 9]), (7, [0, 1, 2, 7, 8]), (8, [6])], []⟩ := by kernel_rfl
-- loop.example/g01121/impl.isRegisterState
theorem fn91 : TT.fn 91 = some Try.f91 := by kernel_rfl
theorem md91 : (TT.an 91).mode = 1 := by kernel_rfl
theorem fi91 : FI.of Try.f91 (TT.an 91) = ⟨[.tmp 4], 15, [(0, [1, 2]), (1, [4])], []⟩ := by kernel_rfl
-- (loop.example/g01121/impl.Register).bits
theorem fn92 : TT.fn 92 = some Try.f92 := by kernel_rfl
theorem md92 : (TT.an 92).mode = 1 := by kernel_rfl
theorem fi92 : FI.of Try.f92 (TT.an 92) = ⟨[.tmp 6, .tmp 7], 27, [(0, [1, 2, 3]), (1, [1, 2, 3, 8]), (2, [1, 3, 8, 11, 12]), (3, [1, 3, 8, 11, 12, 13]), (4, [3, 8, 9, 10, 11, 12]), (5, [3, 8, 9, 11, 12]), (6, [1, 3, 8, 11, 12]), (7, [1, 3, 8, 11, 12]), (8, [6, 7])], []⟩ := by kernel_rfl
-- loop.example/g01121/spec.l08Shift
theorem fn93 : TT.fn 93 = some Try.f93 := by kernel_rfl
theorem md93 : (TT.an 93).mode = 1 := by kernel_rfl
theorem fi93 : FI.of Try.f93 (TT.an 93) = ⟨[.tmp 6], 23, [(0, [0, 1, 2]), (1, [0, 1, 2, 8]), (2, [6]), (3, [6])], []⟩ := by kernel_rfl
-- loop.example/g01121/impl.unitRows
theorem fn94 : TT.fn 94 = some Try.f94 := by kernel_rfl
theorem md94 : (TT.an 94).mode = 2 := by kernel_rfl
theorem fi94 : FI.of Try.f94 (TT.an 94) = ⟨[.tmp 2], 17, [(0, [0]), (1, [0, 3]), (2, [3, 6, 7]), (3, [3, 6, 7, 8]), (4, [3, 4, 6, 7]), (5, [3, 6, 7]), (6, [3, 6, 7]), (7, [2])], []⟩ := by kernel_rfl
-- loop.example/g01121/impl.timesRows
theorem fn95 : TT.fn 95 = some Try.f95 := by kernel_rfl
theorem md95 : (TT.an 95).mode = 2 := by kernel_rfl
theorem fi95 : FI.of Try.f95 (TT.an 95) = ⟨[.tmp 4], 23, [(0, [0, 1]), (1, [0, 1, 5]), (2, [0, 5, 9, 10, 11]), (3, [0, 5, 9, 10, 11, 12]), (4, [0, 5, 7, 9, 10, 11]), (5, [0, 5, 9, 10, 11]), (6, [0, 5, 9, 10, 11]), (7, [4])], []⟩ := by kernel_rfl
-- loop.example/g01121/spec.l08Both
theorem fn96 : TT.fn 96 = some Try.f96 := by kernel_rfl
theorem md96 : (TT.an 96).mode = 0 := by kernel_rfl
theorem fi96 : FI.of Try.f96 (TT.an 96) = ⟨[.tmp 4], 15, [(0, [0, 1]), (1, [4])], []⟩ := by kernel_rfl
-- loop.example/g01121/spec.l08Step
theorem fn97 : TT.fn 97 = some Try.f97 := by kernel_rfl
theorem md97 : (TT.an 97).mode = 0 := by kernel_rfl
theorem fi97 : FI.of Try.f97 (TT.an 97) = ⟨[.tmp 4, .tmp 5], 19, [(0, [0, 1]), (1, [4, 5])], [(1, [(9, 5)])]⟩ := by kernel_rfl
-- loop.example/g01121/impl.isLinearState
theorem fn98 : TT.fn 98 = some Try.f98 := by kernel_rfl
theorem md98 : (TT.an 98).mode = 1 := by kernel_rfl
theorem fi98 : FI.of Try.f98 (TT.an 98) = ⟨[.tmp 4], 15, [(0, [1, 2]), (1, [4])], []⟩ := by kernel_rfl
-- loop.example/g01121/impl.applyRows
theorem fn99 : TT.fn 99 = some Try.f99 := by kernel_rfl
theorem md99 : (TT.an 99).mode = 1 := by kernel_rfl
theorem fi99 : FI.of Try.f99 (TT.an 99) = ⟨[.tmp 4], 25, [(0, [0, 1]), (1, [0, 1, 5]), (2, [1, 5, 8, 9, 10]), (3, [1, 5, 8, 9, 10, 11]), (4, [1, 5, 6, 7, 8, 9, 10]), (5, [1, 5, 8, 9, 10]), (6, [1, 5, 8, 9, 10]), (7, [4])], []⟩ := by kernel_rfl
-- loop.example/g01121/impl.parity
theorem fn100 : TT.fn 100 = some Try.f100 := by kernel_rfl
theorem md100 : (TT.an 100).mode = 1 := by kernel_rfl
theorem fi100 : FI.of Try.f100 (TT.an 100) = ⟨[.tmp 2], 7, [(0, [0]), (1, [2])], []⟩ := by kernel_rfl
-- loop.example/g01121/spec.l08Bits
theorem fn101 : TT.fn 101 = some Try.f101 := by kernel_rfl
theorem md101 : (TT.an 101).mode = 0 := by kernel_rfl
theorem fi101 : FI.of Try.f101 (TT.an 101) = ⟨[.tmp 6], 32, [(0, [0, 1, 2]), (1, [0, 1, 2, 7]), (2, [0, 1, 2, 7, 8]), (3, [0, 1, 2, 7, 8, 14]), (4, [0, 1, 2, 7, 8]), (5, [0, 2, 7, 8, 9, 10]), (6, [0, 2, 7, 8, 9]), (7, [0, 1, 2, 7, 8]), (8, [6])], []⟩ := by kernel_rfl
-- (loop.example/g01121/impl.Linear).bits
theorem fn102 : TT.fn 102 = some Try.f102 := by kernel_rfl
theorem md102 : (TT.an 102).mode = 1 := by kernel_rfl
theorem fi102 : FI.of Try.f102 (TT.an 102) = ⟨[.tmp 6], 28, [(0, [1, 2, 3]), (1, [1, 2, 3, 7]), (2, [1, 3, 7, 9, 10]), (3, [1, 3, 7, 9, 10, 11]), (4, [1, 3, 7, 9, 10]), (5, [1, 3, 7, 9, 10]), (6, [1, 3, 7, 9, 10]), (7, [6])], []⟩ := by kernel_rfl
-- loop.example/g01121/spec.l08Rank
theorem fn103 : TT.fn 103 = some Try.f103 := by kernel_rfl
theorem md103 : (TT.an 103).mode = 1 := by kernel_rfl
theorem fi103 : FI.of Try.f103 (TT.an 103) = ⟨[.tmp 2], 59, [(0, [0]), (1, [0, 3]), (2, [3, 4]), (3, [3, 4, 5]), (4, [3, 4, 5, 13]), (5, [3, 4, 5]), (6, [3, 4, 5, 20]), (7, [3, 4, 5]), (8, [3, 4, 5, 6]), (9, [3, 4, 5, 6, 7]), (10, [3, 4, 5, 6, 7, 38]), (11, [3, 4, 5, 6, 7]), (12, [3, 4, 5, 6, 7, 47]), (13, [3, 4, 5, 6, 7]), (14, [2])], []⟩ := by kernel_rfl
-- loop.example/g01121/spec.l08Outputs
theorem fn104 : TT.fn 104 = some Try.f104 := by kernel_rfl
theorem md104 : (TT.an 104).mode = 0 := by kernel_rfl
theorem fi104 : FI.of Try.f104 (TT.an 104) = ⟨[.tmp 4], 29, [(0, [0, 1]), (1, [0, 1, 5]), (2, [0, 1, 5, 6]), (3, [0, 1, 5, 6, 7]), (4, [0, 1, 5, 6, 7, 15]), (5, [0, 1, 5, 6, 7]), (6, [0, 1, 5, 6, 7]), (7, [0, 1, 5, 6, 7]), (8, [4])], []⟩ := by kernel_rfl
-- (loop.example/g01121/impl.Linear).outRows
theorem fn105 : TT.fn 105 = some Try.f105 := by kernel_rfl
theorem md105 : (TT.an 105).mode = 0 := by kernel_rfl
theorem fi105 : FI.of Try.f105 (TT.an 105) = ⟨[], 23, [(0, [1, 2, 3]), (1, [1, 2, 3, 6]), (2, [2, 3, 6, 10, 11]), (3, [2, 3, 6, 10, 11, 12]), (4, [2, 3, 6, 7, 10, 11]), (5, [2, 3, 6, 10, 11]), (6, [2, 3, 6, 10, 11]), (7, [2, 3, 6, 10, 11])], []⟩ := by kernel_rfl
-- loop.example/g01121/impl.OutputRank$1
theorem fn106 : TT.fn 106 = some Try.f106 := by kernel_rfl
theorem md106 : (TT.an 106).mode = 0 := by kernel_rfl
theorem fi106 : FI.of Try.f106 (TT.an 106) = ⟨[], 8, [(0, [])], []⟩ := by kernel_rfl
-- (*loop.example/g01121/impl.equations).add
theorem fn107 : TT.fn 107 = some Try.f107 := by kernel_rfl
theorem md107 : (TT.an 107).mode = 0 := by kernel_rfl
theorem fi107 : FI.of Try.f107 (TT.an 107) = ⟨[.tmp 6], 64, [(0, [0, 1, 2]), (1, [0, 7]), (2, [0, 7, 23]), (3, [6]), (4, [0, 7, 29, 30, 31]), (5, [0, 7, 29, 30, 31, 32]), (6, [0, 7, 8, 9, 29, 30, 31]), (7, [0, 7, 8, 29, 30, 31, 42]), (8, [0, 7, 29, 30, 31]), (9, [0, 7, 29, 30, 31]), (10, []), (11, [6])], []⟩ := by kernel_rfl
-- loop.example/g01121/spec.l08Map
theorem fn108 : TT.fn 108 = some Try.f108 := by kernel_rfl
theorem md108 : (TT.an 108).mode = 1 := by kernel_rfl
theorem fi108 : FI.of Try.f108 (TT.an 108) = ⟨[.tmp 4], 26, [(0, [0, 1]), (1, [0, 1, 5]), (2, [0, 1, 5, 6]), (3, [0, 1, 5, 6, 10]), (4, [0, 1, 5, 6]), (5, [0, 1, 5, 6]), (6, [4])], []⟩ := by kernel_rfl
-- loop.example/g01121/spec.l08Power
theorem fn109 : TT.fn 109 = some Try.f109 := by kernel_rfl
theorem md109 : (TT.an 109).mode = 2 := by kernel_rfl
theorem fi109 : FI.of Try.f109 (TT.an 109) = ⟨[.tmp 4], 34, [(0, [0, 1]), (1, [0, 1, 5]), (2, [0, 1, 5, 6]), (3, [0, 1, 5, 6, 11]), (4, [0, 1, 5, 6]), (5, [0, 1, 5, 6]), (6, [0, 1, 5, 21]), (7, [0, 1, 5, 24]), (8, [0, 1, 5]), (9, [0, 1, 5]), (10, [0, 1, 5]), (11, [4])], []⟩ := by kernel_rfl
-- loop.example/g01121/spec.l08Least
theorem fn110 : TT.fn 110 = some Try.f110 := by kernel_rfl
theorem md110 : (TT.an 110).mode = 1 := by kernel_rfl
theorem fi110 : FI.of Try.f110 (TT.an 110) = ⟨[.tmp 4, .tmp 5, .tmp 6], 66, [(0, [0, 1]), (1, [0, 1, 17]), (2, [4, 5, 6]), (3, [0, 1, 7]), (4, [0, 1, 7, 8]), (5, [0, 1, 7, 8, 9]), (6, [0, 1, 7, 8, 9, 21]), (7, [0, 1, 7, 8, 9]), (8, [0, 1, 7, 8, 9, 10]), (9, [1, 7, 8, 9, 10, 11]), (10, [1, 7, 8, 9, 10, 11, 12]), (11, [1, 7, 8, 9, 10, 11, 12, 52]), (12, [1, 7, 8, 9, 10, 11, 12]), (13, [0, 1, 7, 8, 9, 11, 12]), (14, [0, 1, 7, 8, 9, 11, 57]), (15, [0, 1, 7, 8, 9]), (16, [0, 1, 7, 8, 9]), (17, [4, 5, 6])], []⟩ := by kernel_rfl
-- (*loop.example/g01121/impl.equations).least
theorem fn111 : TT.fn 111 = some Try.f111 := by kernel_rfl
theorem md111 : (TT.an 111).mode = 0 := by kernel_rfl
theorem fi111 : FI.of Try.f111 (TT.an 111) = ⟨[.tmp 2], 29, [(0, [0]), (1, [0, 3]), (2, [0, 3, 9, 10, 11]), (3, [0, 3, 9, 10, 11, 12]), (4, [0, 3, 5, 9, 10, 11]), (5, [0, 3, 9, 10, 11]), (6, [0, 3, 9, 10, 11]), (7, [2])], [(5, [(5, 9)])]⟩ := by kernel_rfl
-- (*loop.example/g01121/spec.l00Src).one
theorem fn112 : TT.fn 112 = some Try.f112 := by kernel_rfl
theorem md112 : (TT.an 112).mode = 0 := by kernel_rfl
theorem fi112 : FI.of Try.f112 (TT.an 112) = ⟨[.tmp 4], 9, [(0, [0, 1]), (1, [4])], []⟩ := by kernel_rfl
-- loop.example/g01121/spec.l08DrawSized
theorem fn113 : TT.fn 113 = some Try.f113 := by kernel_rfl
theorem md113 : (TT.an 113).mode = 0 := by kernel_rfl
theorem fi113 : FI.of Try.f113 (TT.an 113) = ⟨[.cell 4 41], 64, [(0, [0, 1, 4]), (1, [0, 1, 4, 5]), (2, [0, 1, 4, 5, 6]), (3, [0, 1, 4, 5, 6, 7]), (4, [0, 1, 4, 5, 6, 7, 16]), (5, [0, 1, 4, 5, 6, 7]), (6, [0, 1, 4, 5, 6, 7, 8]), (7, [0, 1, 4, 5, 6, 7, 8, 31]), (8, [0, 1, 4, 5, 6, 7, 8]), (9, [0, 1, 4, 5, 6, 7, 8, 37]), (10, [0, 1, 4, 5, 6, 7, 8]), (11, [0, 1, 4, 5, 6, 7]), (12, [0, 4, 5]), (13, [4, 5, 61]), (14, [4, 5]), (15, [4])], []⟩ := by kernel_rfl
-- loop.example/g01121/impl.isSeen
theorem fn114 : TT.fn 114 = some Try.f114 := by kernel_rfl
theorem md114 : (TT.an 114).mode = 1 := by kernel_rfl
theorem fi114 : FI.of Try.f114 (TT.an 114) = ⟨[.tmp 2], 11, [(0, [0]), (1, [2])], []⟩ := by kernel_rfl
-- (loop.example/g01121/impl.Linear).behind
theorem fn115 : TT.fn 115 = some Try.f115 := by kernel_rfl
theorem md115 : (TT.an 115).mode = 0 := by kernel_rfl
theorem fi115 : FI.of Try.f115 (TT.an 115) = ⟨[.tmp 6, .tmp 7, .tmp 8], 60, [(0, [1, 2, 3]), (1, [1, 2, 3, 9]), (2, [1, 2, 3, 9, 17, 18, 19]), (3, [1, 2, 3, 9, 17, 18, 19, 20]), (4, [1, 2, 3, 9, 11, 17, 18, 19]), (5, [1, 2, 3, 9, 17, 18, 19]), (6, [1, 2, 3, 9, 17, 18, 19]), (7, [1, 2, 3, 9, 12]), (8, [1, 2, 3, 12]), (9, [1, 2, 12, 13]), (10, [2, 12, 13, 38, 39, 40]), (11, [2, 12, 13, 38, 39, 40, 41]), (12, [2, 12, 13, 15, 38, 39, 40]), (13, [2, 12, 13, 38, 39, 40, 53]), (14, [6, 7, 8]), (15, [2, 12, 13, 38, 39, 40]), (16, [6, 7, 8])], []⟩ := by kernel_rfl
-- (*loop.example/g01121/impl.equations).reduced
theorem fn116 : TT.fn 116 = some Try.f116 := by kernel_rfl
theorem md116 : (TT.an 116).mode = 0 := by kernel_rfl
theorem fi116 : FI.of Try.f116 (TT.an 116) = ⟨[.tmp 4], 30, [(0, [0, 1]), (1, [0, 1, 11, 12, 13]), (2, [0, 1, 11, 12, 13, 14]), (3, [0, 1, 6, 11, 12, 13]), (4, [0, 1, 6, 7, 11, 12, 13]), (5, [0, 1, 6, 11, 12, 13, 24]), (6, [0, 1, 11, 12, 13]), (7, [0, 1, 11, 12, 13]), (8, [4])], []⟩ := by kernel_rfl
-- (*loop.example/g01121/impl.equations).lead
theorem fn117 : TT.fn 117 = some Try.f117 := by kernel_rfl
theorem md117 : (TT.an 117).mode = 0 := by kernel_rfl
theorem fi117 : FI.of Try.f117 (TT.an 117) = ⟨[.tmp 4], 19, [(0, [0, 1]), (1, [5]), (2, [4])], []⟩ := by kernel_rfl
-- loop.example/g01121/spec.l08Seen
theorem fn118 : TT.fn 118 = some Try.f118 := by kernel_rfl
theorem md118 : (TT.an 118).mode = 0 := by kernel_rfl
theorem fi118 : FI.of Try.f118 (TT.an 118) = ⟨[.tmp 4, .tmp 5], 50, [(0, [0, 1]), (1, [0, 1, 6]), (2, [0, 1, 6, 7]), (3, [0, 1, 6, 7, 17]), (4, [0, 1, 6, 7]), (5, [0, 1, 6, 7, 35]), (6, [4, 5]), (7, [0, 1, 6, 7]), (8, [4, 5])], []⟩ := by kernel_rfl
-- loop.example/g01121/spec.l02Solves
theorem fn119 : TT.fn 119 = some Try.f119 := by kernel_rfl
theorem md119 : (TT.an 119).mode = 1 := by kernel_rfl
theorem fi119 : FI.of Try.f119 (TT.an 119) = ⟨[.tmp 4], 89, [(0, [0, 1]), (1, [1, 5]), (2, [1, 5, 6]), (3, [1, 5, 6, 16]), (4, [1, 5, 6]), (5, [1, 5, 6, 7]), (6, [1, 5, 6, 7, 32]), (7, [1, 5, 6, 7]), (8, [1, 5, 6, 7, 38]), (9, [1, 5, 6, 7, 8]), (10, [1, 5, 6, 7, 8, 9]), (11, [1, 5, 6, 7, 8, 9, 10]), (12, [1, 5, 6, 7, 8, 9, 10, 47]), (13, [1, 5, 6, 7, 8, 9, 10]), (14, [1, 5, 6, 7, 8, 9, 10, 52]), (15, [1, 5, 6, 7, 8, 9, 10, 60]), (16, [1, 5, 6, 7, 8, 9, 10]), (17, [1, 5, 6, 7, 8, 9, 10]), (18, [1, 5, 6]), (19, [5, 11]), (20, [5, 11, 81]), (21, [5, 11]), (22, [5, 11, 88]), (23, [4]), (24, [4])], []⟩ := by kernel_rfl
-- loop.example/g01121/spec.l00Own
theorem fn120 : TT.fn 120 = some Try.f120 := by kernel_rfl
theorem md120 : (TT.an 120).mode = 2 := by kernel_rfl
theorem fi120 : FI.of Try.f120 (TT.an 120) = ⟨[.tmp 2], 6, [(0, [0]), (1, [2])], []⟩ := by kernel_rfl
-- loop.example/g01121/spec.l08Equation
theorem fn121 : TT.fn 121 = some Try.f121 := by kernel_rfl
theorem md121 : (TT.an 121).mode = 0 := by kernel_rfl
theorem fi121 : FI.of Try.f121 (TT.an 121) = ⟨[.tmp 4], 26, [(0, [0, 3]), (1, [4])], [(1, [(3, 10), (13, 10), (13, 11), (17, 10), (17, 11)])]⟩ := by kernel_rfl
-- loop.example/g01121/laws.toSeen
theorem fn122 : TT.fn 122 = some Try.f122 := by kernel_rfl
theorem md122 : (TT.an 122).mode = 1 := by kernel_rfl
theorem fi122 : FI.of Try.f122 (TT.an 122) = ⟨[.cell 2 76], 11, [(0, [1, 2]), (1, [1, 2, 3]), (2, [1, 2, 3]), (3, [2, 3]), (4, [2])], []⟩ := by kernel_rfl
-- loop.example/g01121/laws.eqSeen
theorem fn123 : TT.fn 123 = some Try.f123 := by kernel_rfl
theorem md123 : (TT.an 123).mode = 1 := by kernel_rfl
theorem fi123 : FI.of Try.f123 (TT.an 123) = ⟨[.tmp 4], 15, [(0, [2, 3]), (1, [2, 3, 9]), (2, [4]), (3, [14]), (4, [4]), (5, [4])], []⟩ := by kernel_rfl
-- (*loop.example/g01121/spec.l00Src).next
theorem fn124 : TT.fn 124 = some Try.f124 := by kernel_rfl
theorem md124 : (TT.an 124).mode = 0 := by kernel_rfl
theorem fi124 : FI.of Try.f124 (TT.an 124) = ⟨[.tmp 2], 62, [(0, [0]), (1, [0, 3]), (2, [0, 3, 13]), (3, [0, 3]), (4, [0, 3]), (5, [0, 3]), (6, [0, 3, 53]), (7, [2]), (8, [2])], []⟩ := by kernel_rfl
-- slices.ContainsFunc[[]int64,int64]
theorem fn125 : TT.fn 125 = some Try.f125 := by kernel_rfl
theorem md125 : (TT.an 125).mode = 0 := by kernel_rfl
theorem fi125 : FI.of Try.f125 (TT.an 125) = ⟨[.tmp 4], 9, [(0, [0, 1]), (1, [4])], []⟩ := by kernel_rfl
-- loop.example/g01121/impl.allIn$1
theorem fn126 : TT.fn 126 = some Try.f126 := by kernel_rfl
theorem md126 : (TT.an 126).mode = 0 := by kernel_rfl
theorem fi126 : FI.of Try.f126 (TT.an 126) = ⟨[.tmp 4], 10, [(0, [0, 1, 2]), (1, [4])], []⟩ := by kernel_rfl
-- loop.example/g01121/spec.l02State
theorem fn127 : TT.fn 127 = some Try.f127 := by kernel_rfl
theorem md127 : (TT.an 127).mode = 1 := by kernel_rfl
theorem fi127 : FI.of Try.f127 (TT.an 127) = ⟨[.tmp 4], 11, [(0, [0, 1]), (1, [4])], []⟩ := by kernel_rfl
-- slices.Backward[[][2]int64,[2]int64]$1
theorem fn128 : TT.fn 128 = some Try.f128 := by kernel_rfl
theorem md128 : (TT.an 128).mode = 0 := by kernel_rfl
theorem fi128 : FI.of Try.f128 (TT.an 128) = ⟨[], 19, [(0, [0, 1, 3]), (1, [0, 1, 3, 8]), (2, [0, 1, 3]), (3, [0, 1, 3, 18])], []⟩ := by kernel_rfl
-- loop.example/g01121/spec.l02Step
theorem fn129 : TT.fn 129 = some Try.f129 := by kernel_rfl
theorem md129 : (TT.an 129).mode = 0 := by kernel_rfl
theorem fi129 : FI.of Try.f129 (TT.an 129) = ⟨[.tmp 4, .tmp 5], 30, [(0, [0, 1]), (1, [0, 1, 10]), (2, [4, 5]), (3, [4, 5])], [(3, [(12, 8)])]⟩ := by kernel_rfl
-- (loop.example/g01121/impl.Register).step
theorem fn130 : TT.fn 130 = some Try.f130 := by kernel_rfl
theorem md130 : (TT.an 130).mode = 1 := by kernel_rfl
theorem fi130 : FI.of Try.f130 (TT.an 130) = ⟨[.tmp 4, .tmp 5], 23, [(0, [1, 2]), (1, [1, 2, 8]), (2, [4, 5]), (3, [4, 5])], [(3, [(8, 6)])]⟩ := by kernel_rfl
-- (*strings.Builder).WriteByte
theorem fn131 : TT.fn 131 = some Try.f131 := by kernel_rfl
theorem md131 : (TT.an 131).mode = 0 := by kernel_rfl
theorem fi131 : FI.of Try.f131 (TT.an 131) = ⟨[.tmp 4], 17, [(0, [0, 1]), (1, [0, 1]), (2, []), (3, [4])], []⟩ := by kernel_rfl
-- loop.example/g01121/impl.bitText
theorem fn132 : TT.fn 132 = some Try.f132 := by kernel_rfl
theorem md132 : (TT.an 132).mode = 1 := by kernel_rfl
theorem fi132 : FI.of Try.f132 (TT.an 132) = ⟨[.tmp 2], 6, [(0, [0]), (1, [2])], []⟩ := by kernel_rfl
-- (*strings.Builder).String
theorem fn133 : TT.fn 133 = some Try.f133 := by kernel_rfl
theorem md133 : (TT.an 133).mode = 0 := by kernel_rfl
theorem fi133 : FI.of Try.f133 (TT.an 133) = ⟨[.tmp 2], 14, [(0, [0]), (1, [2])], [(1, [(8, 4)])]⟩ := by kernel_rfl
-- loop.example/g01121/impl.combinedRow
theorem fn134 : TT.fn 134 = some Try.f134 := by kernel_rfl
theorem md134 : (TT.an 134).mode = 1 := by kernel_rfl
theorem fi134 : FI.of Try.f134 (TT.an 134) = ⟨[.tmp 4], 25, [(0, [0, 1]), (1, [0, 1, 5]), (2, [1, 5, 8, 9, 10]), (3, [1, 5, 8, 9, 10, 11]), (4, [1, 5, 6, 7, 8, 9, 10]), (5, [1, 5, 7, 8, 9, 10, 19]), (6, [1, 5, 8, 9, 10]), (7, [1, 5, 8, 9, 10]), (8, [4])], []⟩ := by kernel_rfl
-- loop.example/g01121/spec.l02Parity
theorem fn135 : TT.fn 135 = some Try.f135 := by kernel_rfl
theorem md135 : (TT.an 135).mode = 1 := by kernel_rfl
theorem fi135 : FI.of Try.f135 (TT.an 135) = ⟨[.tmp 2], 13, [(0, [0]), (1, [0, 3]), (2, [0, 3, 5]), (3, [0, 3]), (4, [0, 3]), (5, [2])], []⟩ := by kernel_rfl
-- math/bits.OnesCount64
theorem fn136 : TT.fn 136 = some Try.f136 := by kernel_rfl
theorem md136 : (TT.an 136).mode = 1 := by kernel_rfl
theorem fi136 : FI.of Try.f136 (TT.an 136) = ⟨[.tmp 2], 35, [(0, [0]), (1, [0]), (2, [0]), (3, [0]), (4, [0]), (5, [0]), (6, [0]), (7, [2])], []⟩ := by kernel_rfl
-- loop.example/g01121/spec.l08Row
theorem fn137 : TT.fn 137 = some Try.f137 := by kernel_rfl
theorem md137 : (TT.an 137).mode = 1 := by kernel_rfl
theorem fi137 : FI.of Try.f137 (TT.an 137) = ⟨[.tmp 4], 26, [(0, [0, 1]), (1, [0, 1, 5]), (2, [0, 1, 5, 6]), (3, [0, 1, 5, 6, 10]), (4, [0, 1, 5, 6]), (5, [0, 1, 5, 6, 18]), (6, [0, 1, 5, 6]), (7, [4])], []⟩ := by kernel_rfl
-- loop.example/g01121/spec.l08Then
theorem fn138 : TT.fn 138 = some Try.f138 := by kernel_rfl
theorem md138 : (TT.an 138).mode = 2 := by kernel_rfl
theorem fi138 : FI.of Try.f138 (TT.an 138) = ⟨[.tmp 4], 24, [(0, [0, 1]), (1, [0, 1, 5]), (2, [0, 1, 5, 6]), (3, [0, 1, 5, 6, 11]), (4, [0, 1, 5, 6]), (5, [0, 1, 5, 6]), (6, [4])], []⟩ := by kernel_rfl
-- slices.ContainsFunc[[]loop.example/g01121/impl.Seen,loop.example/g01121/impl.Seen]
theorem fn139 : TT.fn 139 = some Try.f139 := by kernel_rfl
theorem md139 : (TT.an 139).mode = 0 := by kernel_rfl
theorem fi139 : FI.of Try.f139 (TT.an 139) = ⟨[.tmp 4], 9, [(0, [0, 1]), (1, [4])], []⟩ := by kernel_rfl
-- loop.example/g01121/impl.isSeen$1
theorem fn140 : TT.fn 140 = some Try.f140 := by kernel_rfl
theorem md140 : (TT.an 140).mode = 1 := by kernel_rfl
theorem fi140 : FI.of Try.f140 (TT.an 140) = ⟨[.tmp 2], 13, [(0, [1]), (1, [2])], []⟩ := by kernel_rfl
-- (loop.example/g01121/impl.Linear).behind$1
theorem fn141 : TT.fn 141 = some Try.f141 := by kernel_rfl
theorem md141 : (TT.an 141).mode = 0 := by kernel_rfl
theorem fi141 : FI.of Try.f141 (TT.an 141) = ⟨[], 9, [(0, [])], []⟩ := by kernel_rfl
-- loop.example/g01121/impl.degree
theorem fn142 : TT.fn 142 = some Try.f142 := by kernel_rfl
theorem md142 : (TT.an 142).mode = 1 := by kernel_rfl
theorem fi142 : FI.of Try.f142 (TT.an 142) = ⟨[.tmp 2], 7, [(0, [0]), (1, [2])], []⟩ := by kernel_rfl
-- slices.IndexFunc[[]int64,int64]
theorem fn143 : TT.fn 143 = some Try.f143 := by kernel_rfl
theorem md143 : (TT.an 143).mode = 0 := by kernel_rfl
theorem fi143 : FI.of Try.f143 (TT.an 143) = ⟨[.tmp 4], 19, [(0, [0, 1]), (1, [0, 1, 7, 8]), (2, [0, 1, 7, 8, 9]), (3, [0, 1, 5, 7, 8]), (4, [0, 1, 5, 7, 8, 16]), (5, [4]), (6, [0, 1, 7, 8]), (7, [4])], []⟩ := by kernel_rfl
-- (*strings.Builder).copyCheck
theorem fn144 : TT.fn 144 = some Try.f144 := by kernel_rfl
theorem md144 : (TT.an 144).mode = 0 := by kernel_rfl
theorem fi144 : FI.of Try.f144 (TT.an 144) = ⟨[], 20, [(0, [0, 6]), (1, []), (2, [19])], []⟩ := by kernel_rfl
-- slices.IndexFunc[[]loop.example/g01121/impl.Seen,loop.example/g01121/impl.Seen]
theorem fn145 : TT.fn 145 = some Try.f145 := by kernel_rfl
theorem md145 : (TT.an 145).mode = 0 := by kernel_rfl
theorem fi145 : FI.of Try.f145 (TT.an 145) = ⟨[.tmp 4], 19, [(0, [0, 1]), (1, [0, 1, 7, 8]), (2, [0, 1, 7, 8, 9]), (3, [0, 1, 5, 7, 8]), (4, [0, 1, 5, 7, 8, 16]), (5, [4]), (6, [0, 1, 7, 8]), (7, [4])], []⟩ := by kernel_rfl
-- math/bits.Len64
theorem fn146 : TT.fn 146 = some Try.f146 := by kernel_rfl
theorem md146 : (TT.an 146).mode = 1 := by kernel_rfl
theorem fi146 : FI.of Try.f146 (TT.an 146) = ⟨[.tmp 2], 25, [(0, [0, 2]), (1, [0, 2, 4]), (2, [0]), (3, [0, 2]), (4, [0, 2, 8]), (5, [0, 2]), (6, [0, 2]), (7, [0, 2, 14]), (8, [0, 2]), (9, [0, 2]), (10, [2])], []⟩ := by kernel_rfl
theorem ty1 : TT.ty 1 = some ⟨.func, 1, 8, [.nilF]⟩ := by kernel_rfl
theorem ty2 : TT.ty 2 = some ⟨.int .i64, 1, 8, [.int .i64 0]⟩ := by kernel_rfl
theorem ty3 : TT.ty 3 = some ⟨.int .i64, 1, 8, [.int .i64 0]⟩ := by kernel_rfl
theorem ty4 : TT.ty 4 = some ⟨.bool, 1, 1, [.bool false]⟩ := by kernel_rfl
theorem ty5 : TT.ty 5 = some ⟨.int .u8, 1, 1, [.int .u8 0]⟩ := by kernel_rfl
theorem ty6 : TT.ty 6 = some ⟨.int .u8, 1, 1, [.int .u8 0]⟩ := by kernel_rfl
theorem ty7 : TT.ty 7 = some ⟨.struct [(2, 0), (3, 1), (4, 2), (6, 3)], 4, 24, [.int .i64 0, .int .i64 0, .bool false, .int .u8 0]⟩ := by kernel_rfl
theorem ty8 : TT.ty 8 = some ⟨.struct [(2, 0), (3, 1), (4, 2), (6, 3)], 4, 24, [.int .i64 0, .int .i64 0, .bool false, .int .u8 0]⟩ := by kernel_rfl
theorem ty9 : TT.ty 9 = some ⟨.string, 1, 16, [.str []]⟩ := by kernel_rfl
theorem ty10 : TT.ty 10 = some ⟨.string, 1, 16, [.str []]⟩ := by kernel_rfl
theorem ty11 : TT.ty 11 = some ⟨.string, 1, 16, [.str []]⟩ := by kernel_rfl
theorem ty12 : TT.ty 12 = some ⟨.int .u64, 1, 8, [.int .u64 0]⟩ := by kernel_rfl
theorem ty13 : TT.ty 13 = some ⟨.struct [(9, 0), (12, 1)], 2, 24, [.str [], .int .u64 0]⟩ := by kernel_rfl
theorem ty14 : TT.ty 14 = some ⟨.struct [(9, 0), (12, 1)], 2, 24, [.str [], .int .u64 0]⟩ := by kernel_rfl
theorem ty15 : TT.ty 15 = some ⟨.pointer, 1, 8, [.nilP]⟩ := by kernel_rfl
theorem ty16 : TT.ty 16 = some ⟨.pointer, 1, 8, [.nilP]⟩ := by kernel_rfl
theorem ty17 : TT.ty 17 = some ⟨.pointer, 1, 8, [.nilP]⟩ := by kernel_rfl
theorem ty18 : TT.ty 18 = some ⟨.struct [(17, 0)], 1, 8, [.nilP]⟩ := by kernel_rfl
theorem ty19 : TT.ty 19 = some ⟨.struct [(17, 0)], 1, 8, [.nilP]⟩ := by kernel_rfl
theorem ty20 : TT.ty 20 = some ⟨.iface, 1, 16, [.nilI]⟩ := by kernel_rfl
theorem ty21 : TT.ty 21 = some ⟨.int .i32, 1, 4, [.int .i32 0]⟩ := by kernel_rfl
theorem ty22 : TT.ty 22 = some ⟨.struct [(2, 0), (2, 1), (2, 2), (2, 3), (2, 4), (2, 5)], 6, 48, [.int .i64 0, .int .i64 0, .int .i64 0, .int .i64 0, .int .i64 0, .int .i64 0]⟩ := by kernel_rfl
theorem ty23 : TT.ty 23 = some ⟨.struct [(2, 0), (2, 1), (2, 2), (2, 3), (2, 4), (2, 5)], 6, 48, [.int .i64 0, .int .i64 0, .int .i64 0, .int .i64 0, .int .i64 0, .int .i64 0]⟩ := by kernel_rfl
theorem ty25 : TT.ty 25 = some ⟨.func, 1, 8, [.nilF]⟩ := by kernel_rfl
theorem ty26 : TT.ty 26 = some ⟨.struct [(2, 0), (2, 1), (2, 2), (2, 3), (2, 4), (2, 5)], 6, 48, [.int .i64 0, .int .i64 0, .int .i64 0, .int .i64 0, .int .i64 0, .int .i64 0]⟩ := by kernel_rfl
theorem ty27 : TT.ty 27 = some ⟨.func, 1, 8, [.nilF]⟩ := by kernel_rfl
theorem ty28 : TT.ty 28 = some ⟨.func, 1, 8, [.nilF]⟩ := by kernel_rfl
theorem ty29 : TT.ty 29 = some ⟨.slice 5, 1, 24, [.nilS]⟩ := by kernel_rfl
theorem ty30 : TT.ty 30 = some ⟨.func, 1, 8, [.nilF]⟩ := by kernel_rfl
theorem ty31 : TT.ty 31 = some ⟨.func, 1, 8, [.nilF]⟩ := by kernel_rfl
theorem ty32 : TT.ty 32 = some ⟨.func, 1, 8, [.nilF]⟩ := by kernel_rfl
theorem ty33 : TT.ty 33 = some ⟨.slice 2, 1, 24, [.nilS]⟩ := by kernel_rfl
theorem ty35 : TT.ty 35 = some ⟨.func, 1, 8, [.nilF]⟩ := by kernel_rfl
theorem ty36 : TT.ty 36 = some ⟨.func, 1, 8, [.nilF]⟩ := by kernel_rfl
theorem ty37 : TT.ty 37 = some ⟨.struct [(2, 0), (33, 1), (2, 2)], 3, 40, [.int .i64 0, .nilS, .int .i64 0]⟩ := by kernel_rfl
theorem ty38 : TT.ty 38 = some ⟨.struct [(2, 0), (33, 1), (2, 2)], 3, 40, [.int .i64 0, .nilS, .int .i64 0]⟩ := by kernel_rfl
theorem ty39 : TT.ty 39 = some ⟨.func, 1, 8, [.nilF]⟩ := by kernel_rfl
theorem ty40 : TT.ty 40 = some ⟨.func, 1, 8, [.nilF]⟩ := by kernel_rfl
theorem ty41 : TT.ty 41 = some ⟨.struct [(2, 0), (33, 1), (2, 2)], 3, 40, [.int .i64 0, .nilS, .int .i64 0]⟩ := by kernel_rfl
theorem ty42 : TT.ty 42 = some ⟨.func, 1, 8, [.nilF]⟩ := by kernel_rfl
theorem ty43 : TT.ty 43 = some ⟨.func, 1, 8, [.nilF]⟩ := by kernel_rfl
theorem ty44 : TT.ty 44 = some ⟨.func, 1, 8, [.nilF]⟩ := by kernel_rfl
theorem ty45 : TT.ty 45 = some ⟨.struct [(2, 0), (2, 1)], 2, 16, [.int .i64 0, .int .i64 0]⟩ := by kernel_rfl
theorem ty46 : TT.ty 46 = some ⟨.struct [(2, 0), (2, 1)], 2, 16, [.int .i64 0, .int .i64 0]⟩ := by kernel_rfl
theorem ty48 : TT.ty 48 = some ⟨.func, 1, 8, [.nilF]⟩ := by kernel_rfl
theorem ty49 : TT.ty 49 = some ⟨.struct [(2, 0), (2, 1)], 2, 16, [.int .i64 0, .int .i64 0]⟩ := by kernel_rfl
theorem ty50 : TT.ty 50 = some ⟨.func, 1, 8, [.nilF]⟩ := by kernel_rfl
theorem ty51 : TT.ty 51 = some ⟨.func, 1, 8, [.nilF]⟩ := by kernel_rfl
theorem ty52 : TT.ty 52 = some ⟨.func, 1, 8, [.nilF]⟩ := by kernel_rfl
theorem ty53 : TT.ty 53 = some ⟨.func, 1, 8, [.nilF]⟩ := by kernel_rfl
theorem ty54 : TT.ty 54 = some ⟨.func, 1, 8, [.nilF]⟩ := by kernel_rfl
theorem ty55 : TT.ty 55 = some ⟨.func, 1, 8, [.nilF]⟩ := by kernel_rfl
theorem ty56 : TT.ty 56 = some ⟨.func, 1, 8, [.nilF]⟩ := by kernel_rfl
theorem ty57 : TT.ty 57 = some ⟨.func, 1, 8, [.nilF]⟩ := by kernel_rfl
theorem ty58 : TT.ty 58 = some ⟨.func, 1, 8, [.nilF]⟩ := by kernel_rfl
theorem ty60 : TT.ty 60 = some ⟨.func, 1, 8, [.nilF]⟩ := by kernel_rfl
theorem ty61 : TT.ty 61 = some ⟨.func, 1, 8, [.nilF]⟩ := by kernel_rfl
theorem ty62 : TT.ty 62 = some ⟨.func, 1, 8, [.nilF]⟩ := by kernel_rfl
theorem ty63 : TT.ty 63 = some ⟨.func, 1, 8, [.nilF]⟩ := by kernel_rfl
theorem ty65 : TT.ty 65 = some ⟨.func, 1, 8, [.nilF]⟩ := by kernel_rfl
theorem ty66 : TT.ty 66 = some ⟨.func, 1, 8, [.nilF]⟩ := by kernel_rfl
theorem ty67 : TT.ty 67 = some ⟨.func, 1, 8, [.nilF]⟩ := by kernel_rfl
theorem ty68 : TT.ty 68 = some ⟨.func, 1, 8, [.nilF]⟩ := by kernel_rfl
theorem ty69 : TT.ty 69 = some ⟨.func, 1, 8, [.nilF]⟩ := by kernel_rfl
theorem ty70 : TT.ty 70 = some ⟨.func, 1, 8, [.nilF]⟩ := by kernel_rfl
theorem ty71 : TT.ty 71 = some ⟨.func, 1, 8, [.nilF]⟩ := by kernel_rfl
theorem ty72 : TT.ty 72 = some ⟨.func, 1, 8, [.nilF]⟩ := by kernel_rfl
theorem ty73 : TT.ty 73 = some ⟨.int .u64, 1, 8, [.int .u64 0]⟩ := by kernel_rfl
theorem ty74 : TT.ty 74 = some ⟨.slice 76, 1, 24, [.nilS]⟩ := by kernel_rfl
theorem ty75 : TT.ty 75 = some ⟨.struct [(2, 0), (2, 1)], 2, 16, [.int .i64 0, .int .i64 0]⟩ := by kernel_rfl
theorem ty76 : TT.ty 76 = some ⟨.struct [(2, 0), (2, 1)], 2, 16, [.int .i64 0, .int .i64 0]⟩ := by kernel_rfl
theorem ty77 : TT.ty 77 = some ⟨.func, 1, 8, [.nilF]⟩ := by kernel_rfl
theorem ty78 : TT.ty 78 = some ⟨.func, 1, 8, [.nilF]⟩ := by kernel_rfl
theorem ty79 : TT.ty 79 = some ⟨.func, 1, 8, [.nilF]⟩ := by kernel_rfl
theorem ty80 : TT.ty 80 = some ⟨.slice 143, 1, 24, [.nilS]⟩ := by kernel_rfl
theorem ty81 : TT.ty 81 = some ⟨.func, 1, 8, [.nilF]⟩ := by kernel_rfl
theorem ty82 : TT.ty 82 = some ⟨.func, 1, 8, [.nilF]⟩ := by kernel_rfl
theorem ty83 : TT.ty 83 = some ⟨.func, 1, 8, [.nilF]⟩ := by kernel_rfl
theorem ty84 : TT.ty 84 = some ⟨.func, 1, 8, [.nilF]⟩ := by kernel_rfl
theorem ty85 : TT.ty 85 = some ⟨.func, 1, 8, [.nilF]⟩ := by kernel_rfl
theorem ty86 : TT.ty 86 = some ⟨.func, 1, 8, [.nilF]⟩ := by kernel_rfl
theorem ty87 : TT.ty 87 = some ⟨.pointer, 1, 8, [.nilP]⟩ := by kernel_rfl
theorem ty88 : TT.ty 88 = some ⟨.func, 1, 8, [.nilF]⟩ := by kernel_rfl
theorem ty89 : TT.ty 89 = some ⟨.func, 1, 8, [.nilF]⟩ := by kernel_rfl
theorem ty90 : TT.ty 90 = some ⟨.array 2 2, 2, 16, [.int .i64 0, .int .i64 0]⟩ := by kernel_rfl
theorem ty91 : TT.ty 91 = some ⟨.array 4 90, 8, 64, [.int .i64 0, .int .i64 0, .int .i64 0, .int .i64 0, .int .i64 0, .int .i64 0, .int .i64 0, .int .i64 0]⟩ := by kernel_rfl
theorem ty92 : TT.ty 92 = some ⟨.func, 1, 8, [.nilF]⟩ := by kernel_rfl
theorem ty93 : TT.ty 93 = some ⟨.func, 1, 8, [.nilF]⟩ := by kernel_rfl
theorem ty94 : TT.ty 94 = some ⟨.pointer, 1, 8, [.nilP]⟩ := by kernel_rfl
theorem ty95 : TT.ty 95 = some ⟨.func, 1, 8, [.nilF]⟩ := by kernel_rfl
theorem ty96 : TT.ty 96 = some ⟨.func, 1, 8, [.nilF]⟩ := by kernel_rfl
theorem ty97 : TT.ty 97 = some ⟨.func, 1, 8, [.nilF]⟩ := by kernel_rfl
theorem ty98 : TT.ty 98 = some ⟨.func, 1, 8, [.nilF]⟩ := by kernel_rfl
theorem ty99 : TT.ty 99 = some ⟨.func, 1, 8, [.nilF]⟩ := by kernel_rfl
theorem ty100 : TT.ty 100 = some ⟨.func, 1, 8, [.nilF]⟩ := by kernel_rfl
theorem ty101 : TT.ty 101 = some ⟨.pointer, 1, 8, [.nilP]⟩ := by kernel_rfl
theorem ty102 : TT.ty 102 = some ⟨.func, 1, 8, [.nilF]⟩ := by kernel_rfl
theorem ty103 : TT.ty 103 = some ⟨.pointer, 1, 8, [.nilP]⟩ := by kernel_rfl
theorem ty104 : TT.ty 104 = some ⟨.func, 1, 8, [.nilF]⟩ := by kernel_rfl
theorem ty105 : TT.ty 105 = some ⟨.func, 1, 8, [.nilF]⟩ := by kernel_rfl
theorem ty106 : TT.ty 106 = some ⟨.func, 1, 8, [.nilF]⟩ := by kernel_rfl
theorem ty107 : TT.ty 107 = some ⟨.func, 1, 8, [.nilF]⟩ := by kernel_rfl
theorem ty108 : TT.ty 108 = some ⟨.slice 90, 1, 24, [.nilS]⟩ := by kernel_rfl
theorem ty109 : TT.ty 109 = some ⟨.func, 1, 8, [.nilF]⟩ := by kernel_rfl
theorem ty110 : TT.ty 110 = some ⟨.func, 1, 8, [.nilF]⟩ := by kernel_rfl
theorem ty111 : TT.ty 111 = some ⟨.func, 1, 8, [.nilF]⟩ := by kernel_rfl
theorem ty113 : TT.ty 113 = some ⟨.func, 1, 8, [.nilF]⟩ := by kernel_rfl
theorem ty114 : TT.ty 114 = some ⟨.func, 1, 8, [.nilF]⟩ := by kernel_rfl
theorem ty115 : TT.ty 115 = some ⟨.array 3 2, 3, 24, [.int .i64 0, .int .i64 0, .int .i64 0]⟩ := by kernel_rfl
theorem ty116 : TT.ty 116 = some ⟨.func, 1, 8, [.nilF]⟩ := by kernel_rfl
theorem ty117 : TT.ty 117 = some ⟨.func, 1, 8, [.nilF]⟩ := by kernel_rfl
theorem ty119 : TT.ty 119 = some ⟨.func, 1, 8, [.nilF]⟩ := by kernel_rfl
theorem ty120 : TT.ty 120 = some ⟨.func, 1, 8, [.nilF]⟩ := by kernel_rfl
theorem ty121 : TT.ty 121 = some ⟨.func, 1, 8, [.nilF]⟩ := by kernel_rfl
theorem ty122 : TT.ty 122 = some ⟨.func, 1, 8, [.nilF]⟩ := by kernel_rfl
theorem ty123 : TT.ty 123 = some ⟨.func, 1, 8, [.nilF]⟩ := by kernel_rfl
theorem ty124 : TT.ty 124 = some ⟨.func, 1, 8, [.nilF]⟩ := by kernel_rfl
theorem ty125 : TT.ty 125 = some ⟨.pointer, 1, 8, [.nilP]⟩ := by kernel_rfl
theorem ty126 : TT.ty 126 = some ⟨.struct [(3, 0), (33, 1)], 2, 32, [.int .i64 0, .nilS]⟩ := by kernel_rfl
theorem ty127 : TT.ty 127 = some ⟨.struct [(3, 0), (33, 1)], 2, 32, [.int .i64 0, .nilS]⟩ := by kernel_rfl
theorem ty128 : TT.ty 128 = some ⟨.func, 1, 8, [.nilF]⟩ := by kernel_rfl
theorem ty129 : TT.ty 129 = some ⟨.func, 1, 8, [.nilF]⟩ := by kernel_rfl
theorem ty130 : TT.ty 130 = some ⟨.func, 1, 8, [.nilF]⟩ := by kernel_rfl
theorem ty131 : TT.ty 131 = some ⟨.func, 1, 8, [.nilF]⟩ := by kernel_rfl
theorem ty132 : TT.ty 132 = some ⟨.func, 1, 8, [.nilF]⟩ := by kernel_rfl
theorem ty133 : TT.ty 133 = some ⟨.func, 1, 8, [.nilF]⟩ := by kernel_rfl
theorem ty134 : TT.ty 134 = some ⟨.func, 1, 8, [.nilF]⟩ := by kernel_rfl
theorem ty135 : TT.ty 135 = some ⟨.func, 1, 8, [.nilF]⟩ := by kernel_rfl
theorem ty137 : TT.ty 137 = some ⟨.func, 1, 8, [.nilF]⟩ := by kernel_rfl
theorem ty138 : TT.ty 138 = some ⟨.func, 1, 8, [.nilF]⟩ := by kernel_rfl
theorem ty139 : TT.ty 139 = some ⟨.func, 1, 8, [.nilF]⟩ := by kernel_rfl
theorem ty140 : TT.ty 140 = some ⟨.func, 1, 8, [.nilF]⟩ := by kernel_rfl
theorem ty141 : TT.ty 141 = some ⟨.func, 1, 8, [.nilF]⟩ := by kernel_rfl
theorem ty142 : TT.ty 142 = some ⟨.func, 1, 8, [.nilF]⟩ := by kernel_rfl
theorem ty143 : TT.ty 143 = some ⟨.struct [(2, 0), (2, 1)], 2, 16, [.int .i64 0, .int .i64 0]⟩ := by kernel_rfl
theorem ty144 : TT.ty 144 = some ⟨.func, 1, 8, [.nilF]⟩ := by kernel_rfl
theorem ty145 : TT.ty 145 = some ⟨.int .u64, 1, 8, [.int .u64 0]⟩ := by kernel_rfl
theorem ty146 : TT.ty 146 = some ⟨.struct [(29, 0), (3, 1), (145, 2)], 3, 40, [.nilS, .int .i64 0, .int .u64 0]⟩ := by kernel_rfl
theorem ty147 : TT.ty 147 = some ⟨.struct [(29, 0), (3, 1), (145, 2)], 3, 40, [.nilS, .int .i64 0, .int .u64 0]⟩ := by kernel_rfl
theorem ty148 : TT.ty 148 = some ⟨.func, 1, 8, [.nilF]⟩ := by kernel_rfl
theorem ty149 : TT.ty 149 = some ⟨.func, 1, 8, [.nilF]⟩ := by kernel_rfl
theorem ty150 : TT.ty 150 = some ⟨.func, 1, 8, [.nilF]⟩ := by kernel_rfl
theorem ty151 : TT.ty 151 = some ⟨.pointer, 1, 8, [.nilP]⟩ := by kernel_rfl
theorem ty152 : TT.ty 152 = some ⟨.struct [(151, 0), (29, 1)], 2, 32, [.nilP, .nilS]⟩ := by kernel_rfl
theorem ty153 : TT.ty 153 = some ⟨.struct [(151, 0), (29, 1)], 2, 32, [.nilP, .nilS]⟩ := by kernel_rfl
theorem ty154 : TT.ty 154 = some ⟨.func, 1, 8, [.nilF]⟩ := by kernel_rfl
theorem ty155 : TT.ty 155 = some ⟨.iface, 1, 16, [.nilI]⟩ := by kernel_rfl
theorem ty156 : TT.ty 156 = some ⟨.iface, 1, 16, [.nilI]⟩ := by kernel_rfl
theorem ty157 : TT.ty 157 = some ⟨.func, 1, 8, [.nilF]⟩ := by kernel_rfl
theorem ty158 : TT.ty 158 = some ⟨.func, 1, 8, [.nilF]⟩ := by kernel_rfl
theorem ty159 : TT.ty 159 = some ⟨.func, 1, 8, [.nilF]⟩ := by kernel_rfl
theorem ty160 : TT.ty 160 = some ⟨.func, 1, 8, [.nilF]⟩ := by kernel_rfl
theorem ty161 : TT.ty 161 = some ⟨.func, 1, 8, [.nilF]⟩ := by kernel_rfl
theorem ty162 : TT.ty 162 = some ⟨.func, 1, 8, [.nilF]⟩ := by kernel_rfl
theorem ty163 : TT.ty 163 = some ⟨.func, 1, 8, [.nilF]⟩ := by kernel_rfl
theorem ty164 : TT.ty 164 = some ⟨.func, 1, 8, [.nilF]⟩ := by kernel_rfl
theorem ty165 : TT.ty 165 = some ⟨.pointer, 1, 8, [.nilP]⟩ := by kernel_rfl
theorem ty166 : TT.ty 166 = some ⟨.func, 1, 8, [.nilF]⟩ := by kernel_rfl
theorem ty167 : TT.ty 167 = some ⟨.other, 1, 8, [.nilP]⟩ := by kernel_rfl
theorem ty168 : TT.ty 168 = some ⟨.func, 1, 8, [.nilF]⟩ := by kernel_rfl
theorem ty169 : TT.ty 169 = some ⟨.struct [(17, 0), (17, 1), (17, 2), (9, 3)], 4, 40, [.nilP, .nilP, .nilP, .str []]⟩ := by kernel_rfl
theorem ty170 : TT.ty 170 = some ⟨.struct [(17, 0), (17, 1), (17, 2), (9, 3)], 4, 40, [.nilP, .nilP, .nilP, .str []]⟩ := by kernel_rfl
theorem ty171 : TT.ty 171 = some ⟨.array 0 16, 0, 0, []⟩ := by kernel_rfl
theorem ty172 : TT.ty 172 = some ⟨.struct [(171, 0)], 0, 0, []⟩ := by kernel_rfl
theorem ty173 : TT.ty 173 = some ⟨.struct [(171, 0)], 0, 0, []⟩ := by kernel_rfl
theorem ty174 : TT.ty 174 = some ⟨.func, 1, 8, [.nilF]⟩ := by kernel_rfl
theorem ty175 : TT.ty 175 = some ⟨.int .u32, 1, 4, [.int .u32 0]⟩ := by kernel_rfl
theorem ty176 : TT.ty 176 = some ⟨.int .u8, 1, 1, [.int .u8 0]⟩ := by kernel_rfl
theorem ty177 : TT.ty 177 = some ⟨.int .u8, 1, 1, [.int .u8 0]⟩ := by kernel_rfl
theorem ty178 : TT.ty 178 = some ⟨.func, 1, 8, [.nilF]⟩ := by kernel_rfl
theorem ty179 : TT.ty 179 = some ⟨.int .i32, 1, 4, [.int .i32 0]⟩ := by kernel_rfl
theorem ty180 : TT.ty 180 = some ⟨.int .i32, 1, 4, [.int .i32 0]⟩ := by kernel_rfl
theorem ty181 : TT.ty 181 = some ⟨.struct [(12, 0), (12, 1), (175, 2), (176, 3), (5, 4), (5, 5), (177, 6), (178, 7), (165, 8), (179, 9), (180, 10)], 11, 48, [.int .u64 0, .int .u64 0, .int .u32 0, .int .u8 0, .int .u8 0, .int .u8 0, .int .u8 0, .nilF, .nilP, .int .i32 0, .int .i32 0]⟩ := by kernel_rfl
theorem ty182 : TT.ty 182 = some ⟨.struct [(12, 0), (12, 1), (175, 2), (176, 3), (5, 4), (5, 5), (177, 6), (178, 7), (165, 8), (179, 9), (180, 10)], 11, 48, [.int .u64 0, .int .u64 0, .int .u32 0, .int .u8 0, .int .u8 0, .int .u8 0, .int .u8 0, .nilF, .nilP, .int .i32 0, .int .i32 0]⟩ := by kernel_rfl
end Go.Proofs.Ytonnbgjbohbibaa
