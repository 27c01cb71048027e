/- Facts on the tables of this seat. Nothing is claimed here; no condition. -/
import Derived.Test.YtkglajdhlmmlfaaGreatAbsY
import Derived.Test.YtkglajdhlmmlfaaGreatTab
namespace Go.Proofs.YtkglajdhlmmlfaaGreat
open Go Go.Abs
-- loop.example/g01121/laws.FnExtracted
theorem fn3 : TT.fn 3 = some Tryz.f3 := by kernel_rfl
theorem md3 : (TT.an 3).mode = 1 := by kernel_rfl
theorem fi3 : FI.of Tryz.f3 (TT.an 3) = ⟨[.tmp 4], 222, [(0, [0, 1]), (1, [0, 1, 35]), (2, [4]), (3, [1, 5]), (4, [1, 5, 6]), (5, [1, 5, 6, 43]), (6, [1, 5, 6]), (7, [1, 5, 6, 7]), (8, [5, 7, 8]), (9, [5, 7, 8, 9, 10]), (10, [5, 7, 8, 9, 10, 11, 12]), (11, [5, 7, 8, 9, 10, 11, 12, 13, 14]), (12, [5, 7, 8, 9, 10, 11, 12, 13, 14, 15, 16]), (13, [5, 7, 8, 9, 10, 11, 12, 13, 14, 15, 16, 17, 18]), (14, [5, 7, 8, 9, 10, 11, 12, 13, 14, 15, 16, 17, 18, 19]), (15, [5, 7, 8, 9, 11, 13, 15, 17, 19, 112]), (16, [4]), (17, [5, 7, 8, 9, 11, 13, 15, 17, 19, 20]), (18, [5, 7, 8, 9, 11, 13, 15, 17, 19, 20, 21]), (19, [5, 7, 8, 9, 11, 13, 15, 17, 19, 20, 21, 117]), (20, [5, 7, 8, 9, 11, 13, 15, 17, 19, 20, 21]), (21, [5, 7, 8, 9, 11, 13, 15, 17, 19, 20, 21]), (22, [5, 7, 8, 9, 11, 13, 15, 17, 19, 20, 22]), (23, [5, 7, 8, 9, 11, 13, 15, 17, 19, 20, 22, 127]), (24, [5, 7, 8, 9, 11, 13, 15, 17, 19, 20, 22]), (25, [5, 7, 8, 9, 11, 13, 15, 17, 19, 20, 22, 23]), (26, [5, 7, 8, 9, 11, 13, 15, 17, 19, 20, 22, 23, 24]), (27, [5, 7, 8, 9, 11, 13, 15, 17, 19, 20, 22, 23, 24, 132]), (28, [5, 7, 8, 9, 11, 13, 15, 17, 19, 20, 22, 23, 24]), (29, [5, 7, 8, 9, 11, 13, 15, 17, 19, 20, 22, 23, 24, 25, 26]), (30, [5, 7, 8, 9, 11, 13, 15, 17, 19, 20, 22, 23, 24, 25, 145]), (31, [4]), (32, [5, 7, 8, 9, 11, 13, 15, 17, 19, 20, 22, 23, 24]), (33, [5, 7, 8, 9, 11, 13, 15, 17, 19, 20, 22]), (34, [5, 7, 8, 9, 11, 13, 15, 17, 19, 20, 22, 169]), (35, [4]), (36, [9, 11, 13, 15, 17, 19, 20, 27]), (37, [9, 11, 13, 15, 17, 19, 20, 27, 28]), (38, [9, 11, 13, 15, 17, 19, 20, 27, 28, 174]), (39, [9, 11, 13, 15, 17, 19, 20, 27, 28]), (40, [9, 11, 13, 15, 17, 19, 20, 27, 28]), (41, [9, 11, 13, 15, 17, 19, 20, 29, 30]), (42, [13, 15, 19, 207]), (43, [4]), (44, [15, 19, 31]), (45, [31, 32]), (46, [4])], [(42, [(14, 17)])]⟩ := by kernel_rfl
-- loop.example/g01121/laws.b10Long
theorem fn4 : TT.fn 4 = some Tryz.f4 := by kernel_rfl
theorem md4 : (TT.an 4).mode = 1 := by kernel_rfl
theorem fi4 : FI.of Tryz.f4 (TT.an 4) = ⟨[.tmp 4], 13, [(0, [0, 1]), (1, [4])], []⟩ := by kernel_rfl
-- loop.example/g01121/spec.B10Source
theorem fn5 : TT.fn 5 = some Tryz.f5 := by kernel_rfl
theorem md5 : (TT.an 5).mode = 1 := by kernel_rfl
theorem fi5 : FI.of Tryz.f5 (TT.an 5) = ⟨[.tmp 2], 14, [(0, [0]), (1, [3]), (2, [3, 4]), (3, [2])], []⟩ := by kernel_rfl
-- loop.example/g01121/laws.b10At
theorem fn6 : TT.fn 6 = some Tryz.f6 := by kernel_rfl
theorem md6 : (TT.an 6).mode = 1 := by kernel_rfl
theorem fi6 : FI.of Tryz.f6 (TT.an 6) = ⟨[.tmp 6], 25, [(0, [0, 1, 2]), (1, [0, 1, 2, 8]), (2, [6]), (3, [0, 1, 2, 12]), (4, [6]), (5, [6])], []⟩ := by kernel_rfl
-- loop.example/g01121/spec.B10Rows
theorem fn7 : TT.fn 7 = some Tryz.f7 := by kernel_rfl
theorem md7 : (TT.an 7).mode = 1 := by kernel_rfl
theorem fi7 : FI.of Tryz.f7 (TT.an 7) = ⟨[.tmp 6], 27, [(0, [0, 1, 2]), (1, [1, 2, 7]), (2, [1, 2, 7, 8]), (3, [1, 2, 7, 8, 9]), (4, [1, 2, 7, 8, 9, 15]), (5, [1, 2, 7, 8, 9]), (6, [1, 2, 7, 8, 9]), (7, [6])], []⟩ := by kernel_rfl
-- loop.example/g01121/impl.ExtractBy
theorem fn8 : TT.fn 8 = some Tryz.f8 := by kernel_rfl
theorem md8 : (TT.an 8).mode = 1 := by kernel_rfl
theorem fi8 : FI.of Tryz.f8 (TT.an 8) = ⟨[.tmp 4, .tmp 5], 17, [(0, [0, 1]), (1, [0, 1, 9]), (2, [4, 5]), (3, [4, 5])], []⟩ := by kernel_rfl
-- loop.example/g01121/impl.ExtractDistance
theorem fn9 : TT.fn 9 = some Tryz.f9 := by kernel_rfl
theorem md9 : (TT.an 9).mode = 1 := by kernel_rfl
theorem fi9 : FI.of Tryz.f9 (TT.an 9) = ⟨[.cell 4 33, .tmp 5], 18, [(0, [0, 1, 4]), (1, [0, 1, 4, 9]), (2, [4, 5]), (3, [4, 5])], []⟩ := by kernel_rfl
-- loop.example/g01121/impl.AverageDistance
theorem fn10 : TT.fn 10 = some Tryz.f10 := by kernel_rfl
theorem md10 : (TT.an 10).mode = 1 := by kernel_rfl
theorem fi10 : FI.of Tryz.f10 (TT.an 10) = ⟨[.cell 4 33, .tmp 5], 25, [(0, [0, 1, 4]), (1, [0, 1, 4, 6, 7, 8]), (2, [4, 6, 7, 16]), (3, [4, 5]), (4, [4, 5])], [(4, [(0, 2)])]⟩ := by kernel_rfl
-- loop.example/g01121/impl.CollisionOf
theorem fn11 : TT.fn 11 = some Tryz.f11 := by kernel_rfl
theorem md11 : (TT.an 11).mode = 1 := by kernel_rfl
theorem fi11 : FI.of Tryz.f11 (TT.an 11) = ⟨[.cell 2 33, .tmp 3], 29, [(0, [0, 2]), (1, [0, 2, 9]), (2, [2, 3]), (3, [0, 2, 4]), (4, [2, 4, 13, 14, 15]), (5, [2, 4, 13, 14, 15, 16]), (6, [2, 4, 6, 13, 14, 15]), (7, [2, 4, 13, 14, 15]), (8, [2, 4, 13, 14, 15]), (9, [2, 3])], [(7, [(0, 3)])]⟩ := by kernel_rfl
-- loop.example/g01121/impl.GreatestOf
theorem fn12 : TT.fn 12 = some Tryz.f12 := by kernel_rfl
theorem md12 : (TT.an 12).mode = 1 := by kernel_rfl
theorem fi12 : FI.of Tryz.f12 (TT.an 12) = ⟨[.cell 2 33, .tmp 3], 10, [(0, [0, 2]), (1, [0, 2, 6]), (2, [2, 3]), (3, [2, 3])], []⟩ := by kernel_rfl
-- loop.example/g01121/impl.IsSource
theorem fn13 : TT.fn 13 = some Tryz.f13 := by kernel_rfl
theorem md13 : (TT.an 13).mode = 1 := by kernel_rfl
theorem fi13 : FI.of Tryz.f13 (TT.an 13) = ⟨[.tmp 2], 11, [(0, [0]), (1, [4]), (2, [2])], []⟩ := by kernel_rfl
-- loop.example/g01121/spec.ParityOf
theorem fn14 : TT.fn 14 = some Tryz.f14 := by kernel_rfl
theorem md14 : (TT.an 14).mode = 1 := by kernel_rfl
theorem fi14 : FI.of Tryz.f14 (TT.an 14) = ⟨[.tmp 4, .tmp 5], 15, [(0, [0, 1]), (1, [0, 1, 11]), (2, [4, 5]), (3, [4, 5])], []⟩ := by kernel_rfl
-- loop.example/g01121/laws.b10Add
theorem fn15 : TT.fn 15 = some Tryz.f15 := by kernel_rfl
theorem md15 : (TT.an 15).mode = 1 := by kernel_rfl
theorem fi15 : FI.of Tryz.f15 (TT.an 15) = ⟨[.cell 4 33], 14, [(0, [2, 3, 4]), (1, [4, 5]), (2, [4])], []⟩ := by kernel_rfl
-- loop.example/g01121/laws.b10Less
theorem fn16 : TT.fn 16 = some Tryz.f16 := by kernel_rfl
theorem md16 : (TT.an 16).mode = 1 := by kernel_rfl
theorem fi16 : FI.of Tryz.f16 (TT.an 16) = ⟨[.tmp 4], 18, [(0, [2, 3]), (1, [5, 6]), (2, [4])], []⟩ := by kernel_rfl
-- loop.example/g01121/impl.DistanceOf
theorem fn17 : TT.fn 17 = some Tryz.f17 := by kernel_rfl
theorem md17 : (TT.an 17).mode = 1 := by kernel_rfl
theorem fi17 : FI.of Tryz.f17 (TT.an 17) = ⟨[.cell 4 33, .tmp 5], 30, [(0, [0, 1, 4]), (1, [0, 1, 4, 20]), (2, [4, 5]), (3, [4, 5])], []⟩ := by kernel_rfl
-- loop.example/g01121/laws.b10Equal
theorem fn18 : TT.fn 18 = some Tryz.f18 := by kernel_rfl
theorem md18 : (TT.an 18).mode = 1 := by kernel_rfl
theorem fi18 : FI.of Tryz.f18 (TT.an 18) = ⟨[.tmp 4], 26, [(0, [0, 1]), (1, [0, 1, 10]), (2, [4]), (3, [0, 1, 5]), (4, [0, 1, 5, 14]), (5, [0, 1, 5]), (6, [0, 1, 5, 25]), (7, [4]), (8, [4])], []⟩ := by kernel_rfl
-- loop.example/g01121/laws.b10Mul
theorem fn19 : TT.fn 19 = some Tryz.f19 := by kernel_rfl
theorem md19 : (TT.an 19).mode = 1 := by kernel_rfl
theorem fi19 : FI.of Tryz.f19 (TT.an 19) = ⟨[.cell 4 33], 14, [(0, [2, 3, 4]), (1, [4, 5]), (2, [4])], []⟩ := by kernel_rfl
-- loop.example/g01121/spec.l00From
theorem fn20 : TT.fn 20 = some Tryz.f20 := by kernel_rfl
theorem md20 : (TT.an 20).mode = 0 := by kernel_rfl
theorem fi20 : FI.of Tryz.f20 (TT.an 20) = ⟨[.tmp 2], 6, [(0, [0]), (1, [2])], []⟩ := by kernel_rfl
-- (*loop.example/g01121/spec.l00Src).pick
theorem fn21 : TT.fn 21 = some Tryz.f21 := by kernel_rfl
theorem md21 : (TT.an 21).mode = 0 := by kernel_rfl
theorem fi21 : FI.of Tryz.f21 (TT.an 21) = ⟨[.tmp 4], 20, [(0, [0, 1]), (1, [0, 1, 7]), (2, [4]), (3, [0, 1, 5]), (4, [0, 1, 5, 11]), (5, [1, 5]), (6, [4])], []⟩ := by kernel_rfl
-- loop.example/g01121/spec.l09DrawChances
theorem fn22 : TT.fn 22 = some Tryz.f22 := by kernel_rfl
theorem md22 : (TT.an 22).mode = 0 := by kernel_rfl
theorem fi22 : FI.of Tryz.f22 (TT.an 22) = ⟨[.tmp 4], 56, [(0, [0, 1]), (1, [0, 1, 5]), (2, [0, 1, 5, 6]), (3, [0, 1, 5, 6, 7]), (4, [0, 1, 5, 6, 7, 8]), (5, [0, 1, 5, 6, 7, 8, 18]), (6, [0, 1, 5, 6, 7, 8]), (7, [0, 1, 5, 6, 7, 8, 9]), (8, [0, 1, 5, 6, 7, 8, 9, 25]), (9, [0, 1, 5, 6, 7, 8, 9]), (10, [0, 1, 5, 6, 7, 8, 9]), (11, [0, 1, 5, 6, 7, 8]), (12, [0, 1, 5, 6, 34]), (13, [1, 5]), (14, [1, 5, 6]), (15, [1, 5, 6, 10]), (16, [1, 5, 6, 10, 11]), (17, [1, 5, 6, 10, 11, 43]), (18, [1, 5, 6, 10, 11]), (19, [1, 5, 6, 10, 11]), (20, [4])], []⟩ := by kernel_rfl
-- loop.example/g01121/impl.isExtractor
theorem fn23 : TT.fn 23 = some Tryz.f23 := by kernel_rfl
theorem md23 : (TT.an 23).mode = 1 := by kernel_rfl
theorem fi23 : FI.of Tryz.f23 (TT.an 23) = ⟨[.tmp 4], 25, [(0, [0, 1]), (1, [0, 5, 6]), (2, [4])], []⟩ := by kernel_rfl
-- loop.example/g01121/impl.fractions
theorem fn24 : TT.fn 24 = some Tryz.f24 := by kernel_rfl
theorem md24 : (TT.an 24).mode = 1 := by kernel_rfl
theorem fi24 : FI.of Tryz.f24 (TT.an 24) = ⟨[.tmp 2, .tmp 3], 29, [(0, [0]), (1, [0, 4]), (2, [4, 10, 11, 12]), (3, [4, 10, 11, 12, 13]), (4, [4, 6, 10, 11, 12]), (5, [4, 7, 8, 10, 11, 12]), (6, [4, 7, 10, 11, 12, 22]), (7, [2, 3]), (8, [4, 10, 11, 12]), (9, [4, 10, 11, 12]), (10, [2, 3])], []⟩ := by kernel_rfl
-- loop.example/g01121/impl.extracted
theorem fn25 : TT.fn 25 = some Tryz.f25 := by kernel_rfl
theorem md25 : (TT.an 25).mode = 0 := by kernel_rfl
theorem fi25 : FI.of Tryz.f25 (TT.an 25) = ⟨[.tmp 4], 36, [(0, [0, 1]), (1, [0, 1, 5]), (2, [0, 5, 15, 16, 17]), (3, [0, 5, 15, 16, 17, 18]), (4, [0, 5, 6, 7, 15, 16, 17]), (5, [0, 5, 7, 8, 15, 16, 17]), (6, [0, 5, 15, 16, 17]), (7, [0, 5, 15, 16, 17]), (8, [4])], []⟩ := by kernel_rfl
-- loop.example/g01121/impl.ratios
theorem fn26 : TT.fn 26 = some Tryz.f26 := by kernel_rfl
theorem md26 : (TT.an 26).mode = 1 := by kernel_rfl
theorem fi26 : FI.of Tryz.f26 (TT.an 26) = ⟨[.tmp 2], 20, [(0, [0]), (1, [0, 3]), (2, [3, 7, 8, 9]), (3, [3, 7, 8, 9, 10]), (4, [3, 5, 7, 8, 9]), (5, [3, 7, 8, 9]), (6, [3, 7, 8, 9]), (7, [2])], []⟩ := by kernel_rfl
-- loop.example/g01121/impl.unevenness
theorem fn27 : TT.fn 27 = some Tryz.f27 := by kernel_rfl
theorem md27 : (TT.an 27).mode = 0 := by kernel_rfl
theorem fi27 : FI.of Tryz.f27 (TT.an 27) = ⟨[.cell 4 57], 18, [(0, [0, 1, 4]), (1, [4, 5]), (2, [4])], []⟩ := by kernel_rfl
-- (loop.example/g01121/impl.ratio).fraction
theorem fn28 : TT.fn 28 = some Tryz.f28 := by kernel_rfl
theorem md28 : (TT.an 28).mode = 1 := by kernel_rfl
theorem fi28 : FI.of Tryz.f28 (TT.an 28) = ⟨[.cell 2 33, .tmp 3], 34, [(0, [1, 2]), (1, [1, 2, 4, 5]), (2, [1, 2, 4, 5, 6, 7]), (3, [1, 2, 4, 6, 25]), (4, [2, 3]), (5, [2, 4, 6, 28]), (6, [2, 4, 6]), (7, [2, 3])], []⟩ := by kernel_rfl
-- loop.example/g01121/impl.whole
theorem fn29 : TT.fn 29 = some Tryz.f29 := by kernel_rfl
theorem md29 : (TT.an 29).mode = 1 := by kernel_rfl
theorem fi29 : FI.of Tryz.f29 (TT.an 29) = ⟨[.cell 2 57], 6, [(0, [0, 2]), (1, [2])], []⟩ := by kernel_rfl
-- loop.example/g01121/impl.allRows
theorem fn30 : TT.fn 30 = some Tryz.f30 := by kernel_rfl
theorem md30 : (TT.an 30).mode = 0 := by kernel_rfl
theorem fi30 : FI.of Tryz.f30 (TT.an 30) = ⟨[.tmp 6], 60, [(0, [0, 1, 2]), (1, [0, 2, 7, 8]), (2, [0, 2, 7, 29]), (3, [6]), (4, [0, 2, 7, 33, 34]), (5, [0, 2, 7, 33, 34, 35]), (6, [0, 2, 7, 9, 33, 34]), (7, [0, 2, 7, 9, 10, 33, 34]), (8, [0, 2, 7, 9, 10, 11, 33, 34]), (9, [0, 2, 7, 9, 10, 11, 33, 34, 41]), (10, [0, 2, 7, 9, 10, 11, 33, 34]), (11, [0, 2, 7, 9, 10, 11, 33, 34]), (12, [0, 2, 7, 33, 34]), (13, [0, 2, 7, 33, 34]), (14, [6])], []⟩ := by kernel_rfl
-- loop.example/g01121/impl.AverageDistance$1
theorem fn31 : TT.fn 31 = some Tryz.f31 := by kernel_rfl
theorem md31 : (TT.an 31).mode = 0 := by kernel_rfl
theorem fi31 : FI.of Tryz.f31 (TT.an 31) = ⟨[], 12, [(0, [3]), (1, [])], [(0, [(0, 3)])]⟩ := by kernel_rfl
-- (loop.example/g01121/impl.ratio).plus
theorem fn32 : TT.fn 32 = some Tryz.f32 := by kernel_rfl
theorem md32 : (TT.an 32).mode = 1 := by kernel_rfl
theorem fi32 : FI.of Tryz.f32 (TT.an 32) = ⟨[.cell 4 57], 54, [(0, [2, 3, 4]), (1, [2, 3, 4, 5, 6]), (2, [2, 3, 4, 5, 6, 7]), (3, [4, 7]), (4, [3, 4, 5, 6, 7, 33]), (5, [4, 7]), (6, [3, 4, 5, 6, 7, 43]), (7, [4, 7]), (8, [4])], [(1, [(6, 4), (8, 4)]), (2, [(1000000, 0), (1000001, 9), (1, 6)]), (3, [(4, 2), (4, 6)])]⟩ := by kernel_rfl
-- (loop.example/g01121/impl.ratio).over
theorem fn33 : TT.fn 33 = some Tryz.f33 := by kernel_rfl
theorem md33 : (TT.an 33).mode = 1 := by kernel_rfl
theorem fi33 : FI.of Tryz.f33 (TT.an 33) = ⟨[.cell 4 57], 14, [(0, [2, 3, 4]), (1, [4])], []⟩ := by kernel_rfl
-- (loop.example/g01121/impl.ratio).times
theorem fn34 : TT.fn 34 = some Tryz.f34 := by kernel_rfl
theorem md34 : (TT.an 34).mode = 1 := by kernel_rfl
theorem fi34 : FI.of Tryz.f34 (TT.an 34) = ⟨[.cell 4 57], 22, [(0, [2, 3, 4]), (1, [4])], [(1, [(1, 9), (3, 9), (11, 9), (13, 9), (1, 14), (3, 14)])]⟩ := by kernel_rfl
-- slices.MaxFunc[[]loop.example/g01121/impl.Fraction,loop.example/g01121/impl.Fraction]
theorem fn35 : TT.fn 35 = some Tryz.f35 := by kernel_rfl
theorem md35 : (TT.an 35).mode = 0 := by kernel_rfl
theorem fi35 : FI.of Tryz.f35 (TT.an 35) = ⟨[.cell 4 33], 33, [(0, [0, 1, 4]), (1, [0, 1, 4, 9]), (2, [0, 1, 4]), (3, [0, 1, 4, 5]), (4, [0, 1, 4, 5, 6]), (5, [0, 1, 4, 5, 6, 17]), (6, [0, 1, 4, 5, 6]), (7, [0, 1, 4, 5, 6, 27]), (8, [0, 1, 4, 5, 6]), (9, [4])], []⟩ := by kernel_rfl
-- loop.example/g01121/impl.GreatestOf$1
theorem fn36 : TT.fn 36 = some Tryz.f36 := by kernel_rfl
theorem md36 : (TT.an 36).mode = 1 := by kernel_rfl
theorem fi36 : FI.of Tryz.f36 (TT.an 36) = ⟨[.tmp 4], 10, [(0, [2, 3]), (1, [4])], [(1, [(2, 1)])]⟩ := by kernel_rfl
-- loop.example/g01121/impl.ratioOf
theorem fn37 : TT.fn 37 = some Tryz.f37 := by kernel_rfl
theorem md37 : (TT.an 37).mode = 1 := by kernel_rfl
theorem fi37 : FI.of Tryz.f37 (TT.an 37) = ⟨[.cell 2 57], 14, [(0, [1, 2]), (1, [2])], [(1, [(1, 5), (1, 6), (8, 5), (8, 6), (1, 9)])]⟩ := by kernel_rfl
-- (loop.example/g01121/impl.ratio).compare
theorem fn38 : TT.fn 38 = some Tryz.f38 := by kernel_rfl
theorem md38 : (TT.an 38).mode = 1 := by kernel_rfl
theorem fi38 : FI.of Tryz.f38 (TT.an 38) = ⟨[.tmp 4], 15, [(0, [2, 3]), (1, [5]), (2, [5, 9]), (3, [4]), (4, [12]), (5, [4]), (6, [4])], []⟩ := by kernel_rfl
-- loop.example/g01121/impl.sourceBits
theorem fn39 : TT.fn 39 = some Tryz.f39 := by kernel_rfl
theorem md39 : (TT.an 39).mode = 1 := by kernel_rfl
theorem fi39 : FI.of Tryz.f39 (TT.an 39) = ⟨[.tmp 2, .tmp 3], 22, [(0, [0]), (1, [0, 4]), (2, [2, 3])], []⟩ := by kernel_rfl
-- loop.example/g01121/spec.l01Parity
theorem fn40 : TT.fn 40 = some Tryz.f40 := by kernel_rfl
theorem md40 : (TT.an 40).mode = 1 := by kernel_rfl
theorem fi40 : FI.of Tryz.f40 (TT.an 40) = ⟨[.tmp 4], 19, [(0, [0, 1]), (1, [0, 1, 5]), (2, [5, 6]), (3, [5, 6, 11]), (4, [5, 6]), (5, [5, 6]), (6, [4])], []⟩ := by kernel_rfl
-- loop.example/g01121/spec.AddFractions
theorem fn41 : TT.fn 41 = some Tryz.f41 := by kernel_rfl
theorem md41 : (TT.an 41).mode = 1 := by kernel_rfl
theorem fi41 : FI.of Tryz.f41 (TT.an 41) = ⟨[.cell 4 33, .tmp 5], 20, [(0, [2, 3, 4]), (1, [2, 3, 4, 13]), (2, [4, 5]), (3, [4, 5])], []⟩ := by kernel_rfl
-- loop.example/g01121/spec.CompareFractions
theorem fn42 : TT.fn 42 = some Tryz.f42 := by kernel_rfl
theorem md42 : (TT.an 42).mode = 1 := by kernel_rfl
theorem fi42 : FI.of Tryz.f42 (TT.an 42) = ⟨[.tmp 4, .tmp 5], 17, [(0, [2, 3]), (1, [2, 3, 13]), (2, [4, 5]), (3, [4, 5])], []⟩ := by kernel_rfl
-- loop.example/g01121/impl.areChances
theorem fn43 : TT.fn 43 = some Tryz.f43 := by kernel_rfl
theorem md43 : (TT.an 43).mode = 1 := by kernel_rfl
theorem fi43 : FI.of Tryz.f43 (TT.an 43) = ⟨[.tmp 2], 34, [(0, [0]), (1, [0, 14]), (2, [2]), (3, [0, 3]), (4, [3, 16, 17, 18]), (5, [3, 16, 17, 18, 19]), (6, [3, 5, 16, 17, 18]), (7, [3, 5, 16, 17, 18, 24]), (8, [2]), (9, [3, 16, 17, 18]), (10, [3, 16, 17, 18]), (11, [2])], [(9, [(0, 2)]), (11, [(0, 1)])]⟩ := by kernel_rfl
-- loop.example/g01121/impl.distance
theorem fn44 : TT.fn 44 = some Tryz.f44 := by kernel_rfl
theorem md44 : (TT.an 44).mode = 1 := by kernel_rfl
theorem fi44 : FI.of Tryz.f44 (TT.an 44) = ⟨[.cell 4 57], 29, [(0, [0, 1, 4]), (1, [0, 1, 4, 5]), (2, [1, 4, 5, 9, 10, 11]), (3, [1, 4, 5, 9, 10, 11, 12]), (4, [1, 4, 5, 6, 7, 9, 10, 11]), (5, [1, 4, 5, 9, 10, 11]), (6, [1, 4, 5, 9, 10, 11]), (7, [4])], [(5, [(0, 6), (0, 7)]), (7, [(0, 1)])]⟩ := by kernel_rfl
-- loop.example/g01121/spec.MulFractions
theorem fn45 : TT.fn 45 = some Tryz.f45 := by kernel_rfl
theorem md45 : (TT.an 45).mode = 1 := by kernel_rfl
theorem fi45 : FI.of Tryz.f45 (TT.an 45) = ⟨[.cell 4 33, .tmp 5], 20, [(0, [2, 3, 4]), (1, [2, 3, 4, 13]), (2, [4, 5]), (3, [4, 5])], []⟩ := by kernel_rfl
-- (*loop.example/g01121/spec.l00Src).next
theorem fn46 : TT.fn 46 = some Tryz.f46 := by kernel_rfl
theorem md46 : (TT.an 46).mode = 0 := by kernel_rfl
theorem fi46 : FI.of Tryz.f46 (TT.an 46) = ⟨[.tmp 2], 62, [(0, [0]), (1, [0, 3]), (2, [0, 3, 13]), (3, [0, 3]), (4, [0, 3]), (5, [0, 3]), (6, [0, 3, 53]), (7, [2]), (8, [2])], []⟩ := by kernel_rfl
-- (*loop.example/g01121/spec.l00Src).one
theorem fn47 : TT.fn 47 = some Tryz.f47 := by kernel_rfl
theorem md47 : (TT.an 47).mode = 0 := by kernel_rfl
theorem fi47 : FI.of Tryz.f47 (TT.an 47) = ⟨[.tmp 4], 9, [(0, [0, 1]), (1, [4])], []⟩ := by kernel_rfl
-- loop.example/g01121/spec.l01FMake
theorem fn48 : TT.fn 48 = some Tryz.f48 := by kernel_rfl
theorem md48 : (TT.an 48).mode = 1 := by kernel_rfl
theorem fi48 : FI.of Tryz.f48 (TT.an 48) = ⟨[.cell 4 33], 25, [(0, [0, 1, 4]), (1, [0, 1, 4, 7]), (2, [0, 1, 4]), (3, [0, 1, 4]), (4, [0, 1, 4, 5]), (5, [4])], []⟩ := by kernel_rfl
-- loop.example/g01121/impl.inRange
theorem fn49 : TT.fn 49 = some Tryz.f49 := by kernel_rfl
theorem md49 : (TT.an 49).mode = 1 := by kernel_rfl
theorem fi49 : FI.of Tryz.f49 (TT.an 49) = ⟨[.tmp 6], 15, [(0, [0, 1, 2]), (1, [6])], []⟩ := by kernel_rfl
-- loop.example/g01121/impl.length[int64]
theorem fn50 : TT.fn 50 = some Tryz.f50 := by kernel_rfl
theorem md50 : (TT.an 50).mode = 1 := by kernel_rfl
theorem fi50 : FI.of Tryz.f50 (TT.an 50) = ⟨[.tmp 2], 5, [(0, [0]), (1, [2])], []⟩ := by kernel_rfl
-- loop.example/g01121/impl.allIn
theorem fn51 : TT.fn 51 = some Tryz.f51 := by kernel_rfl
theorem md51 : (TT.an 51).mode = 1 := by kernel_rfl
theorem fi51 : FI.of Tryz.f51 (TT.an 51) = ⟨[.tmp 6], 11, [(0, [0, 4, 5]), (1, [6])], []⟩ := by kernel_rfl
-- slices.Repeat[[]loop.example/g01121/impl.ratio,loop.example/g01121/impl.ratio]
theorem fn52 : TT.fn 52 = some Tryz.f52 := by kernel_rfl
theorem md52 : (TT.an 52).mode = 0 := by kernel_rfl
theorem fi52 : FI.of Tryz.f52 (TT.an 52) = ⟨[.tmp 4], 48, [(0, [0, 1]), (1, [0, 1, 10]), (2, [0, 1]), (3, [0, 5, 6]), (4, [0, 6, 26]), (5, [0, 6]), (6, [0, 7]), (7, [7, 8]), (8, [7, 8, 37]), (9, [7, 8]), (10, [4])], []⟩ := by kernel_rfl
-- loop.example/g01121/impl.applyRows
theorem fn53 : TT.fn 53 = some Tryz.f53 := by kernel_rfl
theorem md53 : (TT.an 53).mode = 1 := by kernel_rfl
theorem fi53 : FI.of Tryz.f53 (TT.an 53) = ⟨[.tmp 4], 25, [(0, [0, 1]), (1, [0, 1, 5]), (2, [1, 5, 8, 9, 10]), (3, [1, 5, 8, 9, 10, 11]), (4, [1, 5, 6, 7, 8, 9, 10]), (5, [1, 5, 8, 9, 10]), (6, [1, 5, 8, 9, 10]), (7, [4])], []⟩ := by kernel_rfl
-- loop.example/g01121/impl.quotient
theorem fn54 : TT.fn 54 = some Tryz.f54 := by kernel_rfl
theorem md54 : (TT.an 54).mode = 1 := by kernel_rfl
theorem fi54 : FI.of Tryz.f54 (TT.an 54) = ⟨[.cell 4 57], 14, [(0, [0, 1, 4]), (1, [4])], []⟩ := by kernel_rfl
-- loop.example/g01121/impl.length[loop.example/g01121/impl.ratio]
theorem fn55 : TT.fn 55 = some Tryz.f55 := by kernel_rfl
theorem md55 : (TT.an 55).mode = 1 := by kernel_rfl
theorem fi55 : FI.of Tryz.f55 (TT.an 55) = ⟨[.tmp 2], 5, [(0, [0]), (1, [2])], []⟩ := by kernel_rfl
-- (loop.example/g01121/impl.natural).small
theorem fn56 : TT.fn 56 = some Tryz.f56 := by kernel_rfl
theorem md56 : (TT.an 56).mode = 1 := by kernel_rfl
theorem fi56 : FI.of Tryz.f56 (TT.an 56) = ⟨[.tmp 2, .tmp 3], 30, [(0, [0]), (1, [0, 9]), (2, [2, 3]), (3, [0, 4]), (4, [4, 10, 11, 12]), (5, [4, 10, 11, 12, 13]), (6, [4, 5, 6, 10, 11, 12]), (7, [4, 10, 11, 12]), (8, [4, 10, 11, 12]), (9, [2, 3])], []⟩ := by kernel_rfl
-- (loop.example/g01121/impl.natural).times
theorem fn57 : TT.fn 57 = some Tryz.f57 := by kernel_rfl
theorem md57 : (TT.an 57).mode = 1 := by kernel_rfl
theorem fi57 : FI.of Tryz.f57 (TT.an 57) = ⟨[.tmp 4], 67, [(0, [0, 1]), (1, [0, 1, 5]), (2, [1, 5, 17, 18, 19]), (3, [1, 5, 17, 18, 19, 20]), (4, [1, 5, 6, 7, 17, 18, 19]), (5, [1, 5, 6, 7, 8, 17, 18, 19]), (6, [1, 5, 6, 7, 8, 17, 18, 19, 24, 25, 26]), (7, [1, 5, 6, 7, 8, 17, 18, 19, 24, 25, 26, 27]), (8, [1, 5, 6, 7, 8, 9, 10, 17, 18, 19, 24, 25, 26]), (9, [1, 5, 6, 7, 8, 9, 17, 18, 19, 24, 25, 26]), (10, [1, 5, 6, 7, 8, 17, 18, 19, 24, 25, 26]), (11, [1, 5, 6, 7, 8, 17, 18, 19, 24, 25, 26]), (12, [1, 5, 6, 7, 8, 17, 18, 19, 24, 25, 26]), (13, [1, 5, 17, 18, 19]), (14, [1, 5, 17, 18, 19]), (15, [4])], []⟩ := by kernel_rfl
-- (loop.example/g01121/impl.natural).plus
theorem fn58 : TT.fn 58 = some Tryz.f58 := by kernel_rfl
theorem md58 : (TT.an 58).mode = 1 := by kernel_rfl
theorem fi58 : FI.of Tryz.f58 (TT.an 58) = ⟨[.tmp 4], 56, [(0, [0, 1]), (1, [0, 1, 12]), (2, [0, 1]), (3, [0, 1, 5, 6]), (4, [0, 1, 5, 6, 20, 21]), (5, [0, 1, 5, 6, 20, 21, 22]), (6, [0, 1, 5, 6, 7, 20, 21]), (7, [0, 1, 5, 6, 7, 20, 21, 27]), (8, [0, 1, 5, 6, 7, 20, 21]), (9, [0, 1, 5, 6, 7, 20, 21, 38]), (10, [0, 1, 5, 6, 7, 20, 21]), (11, [0, 1, 5, 6, 20, 21]), (12, [0, 1, 5, 6, 20, 21]), (13, [0, 1, 5, 6, 20, 21]), (14, [4])], []⟩ := by kernel_rfl
-- (loop.example/g01121/impl.natural).compare
theorem fn59 : TT.fn 59 = some Tryz.f59 := by kernel_rfl
theorem md59 : (TT.an 59).mode = 1 := by kernel_rfl
theorem fi59 : FI.of Tryz.f59 (TT.an 59) = ⟨[.tmp 4], 41, [(0, [0, 1]), (1, [0, 1, 10]), (2, [4]), (3, [0, 1, 5]), (4, [0, 1, 5, 20]), (5, [0, 1, 5]), (6, [0, 1, 5, 31]), (7, [40]), (8, [4]), (9, [4]), (10, [4])], []⟩ := by kernel_rfl
-- (loop.example/g01121/impl.natural).minus
theorem fn60 : TT.fn 60 = some Tryz.f60 := by kernel_rfl
theorem md60 : (TT.an 60).mode = 0 := by kernel_rfl
theorem fi60 : FI.of Tryz.f60 (TT.an 60) = ⟨[.tmp 4], 47, [(0, [0, 1]), (1, [0, 1, 5, 6]), (2, [0, 1, 5, 6, 13, 14]), (3, [0, 1, 5, 6, 13, 14, 15]), (4, [0, 1, 5, 6, 7, 13, 14]), (5, [0, 1, 5, 7, 8, 13, 14]), (6, [0, 1, 5, 7, 8, 13, 14, 27]), (7, [0, 1, 5, 7, 8, 13, 14]), (8, [0, 1, 5, 6, 7, 8, 13, 14]), (9, [0, 1, 5, 6, 7, 8, 13, 14, 36]), (10, [0, 1, 5, 7, 8, 13, 14]), (11, [0, 1, 5, 6, 7, 8, 13, 14]), (12, [0, 1, 5, 6, 13, 14]), (13, [0, 1, 5, 6, 13, 14]), (14, [4])], []⟩ := by kernel_rfl
-- (loop.example/g01121/impl.ratio).lowest
theorem fn61 : TT.fn 61 = some Tryz.f61 := by kernel_rfl
theorem md61 : (TT.an 61).mode = 1 := by kernel_rfl
theorem fi61 : FI.of Tryz.f61 (TT.an 61) = ⟨[.cell 2 57], 31, [(0, [1, 2]), (1, [1, 2, 7]), (2, [2]), (3, [1, 2, 3]), (4, [1, 2, 3]), (5, [1, 2]), (6, [2])], []⟩ := by kernel_rfl
-- loop.example/g01121/impl.naturalOf
theorem fn62 : TT.fn 62 = some Tryz.f62 := by kernel_rfl
theorem md62 : (TT.an 62).mode = 1 := by kernel_rfl
theorem fi62 : FI.of Tryz.f62 (TT.an 62) = ⟨[.tmp 2], 10, [(0, [0]), (1, [2])], []⟩ := by kernel_rfl
-- loop.example/g01121/impl.size
theorem fn63 : TT.fn 63 = some Tryz.f63 := by kernel_rfl
theorem md63 : (TT.an 63).mode = 1 := by kernel_rfl
theorem fi63 : FI.of Tryz.f63 (TT.an 63) = ⟨[.tmp 2], 7, [(0, [0]), (1, [2])], []⟩ := by kernel_rfl
-- (loop.example/g01121/impl.ratio).minus
theorem fn64 : TT.fn 64 = some Tryz.f64 := by kernel_rfl
theorem md64 : (TT.an 64).mode = 1 := by kernel_rfl
theorem fi64 : FI.of Tryz.f64 (TT.an 64) = ⟨[.cell 4 57], 9, [(0, [2, 3, 4]), (1, [4])], [(1, [(0, 2)])]⟩ := by kernel_rfl
-- (loop.example/g01121/impl.ratio).isZero
theorem fn65 : TT.fn 65 = some Tryz.f65 := by kernel_rfl
theorem md65 : (TT.an 65).mode = 1 := by kernel_rfl
theorem fi65 : FI.of Tryz.f65 (TT.an 65) = ⟨[.tmp 2], 7, [(0, [1]), (1, [2])], []⟩ := by kernel_rfl
-- loop.example/g01121/impl.degree
theorem fn66 : TT.fn 66 = some Tryz.f66 := by kernel_rfl
theorem md66 : (TT.an 66).mode = 1 := by kernel_rfl
theorem fi66 : FI.of Tryz.f66 (TT.an 66) = ⟨[.tmp 2], 7, [(0, [0]), (1, [2])], []⟩ := by kernel_rfl
-- loop.example/g01121/impl.length[loop.example/g01121/impl.Fraction]
theorem fn67 : TT.fn 67 = some Tryz.f67 := by kernel_rfl
theorem md67 : (TT.an 67).mode = 1 := by kernel_rfl
theorem fi67 : FI.of Tryz.f67 (TT.an 67) = ⟨[.tmp 2], 5, [(0, [0]), (1, [2])], []⟩ := by kernel_rfl
-- loop.example/g01121/spec.l01FIs
theorem fn68 : TT.fn 68 = some Tryz.f68 := by kernel_rfl
theorem md68 : (TT.an 68).mode = 1 := by kernel_rfl
theorem fi68 : FI.of Tryz.f68 (TT.an 68) = ⟨[.tmp 2], 23, [(0, [1]), (1, [2])], [(1, [(16, 14)])]⟩ := by kernel_rfl
-- loop.example/g01121/spec.l01FAdd
theorem fn69 : TT.fn 69 = some Tryz.f69 := by kernel_rfl
theorem md69 : (TT.an 69).mode = 1 := by kernel_rfl
theorem fi69 : FI.of Tryz.f69 (TT.an 69) = ⟨[.cell 4 33, .tmp 5], 123, [(0, [2, 3, 4]), (1, [2, 3, 4, 6]), (2, [2, 3, 4, 6, 7]), (3, [2, 3, 4, 6, 7, 8]), (4, [2, 3, 4, 6, 7, 8, 9]), (5, [2, 3, 4, 6, 7, 8, 9, 10]), (6, [2, 3, 4, 6, 9, 10]), (7, [2, 3, 4, 6, 7, 8, 9, 10, 54]), (8, [2, 3, 4, 6, 9, 10]), (9, [2, 3, 4, 6, 7, 8, 9, 10, 65]), (10, [2, 3, 4, 6, 10]), (11, [2, 3, 4, 6, 9, 10]), (12, [2, 3, 4, 6, 9, 10, 12]), (13, [2, 3, 4, 6, 9, 10, 13]), (14, [2, 3, 4, 6, 9, 13, 14]), (15, [2, 3, 4, 6, 9, 13, 16, 17]), (16, [4, 9, 16, 17, 18, 19]), (17, [4, 9, 16, 18, 113]), (18, [4, 5]), (19, [4, 16, 18, 115]), (20, [4, 16, 18]), (21, [4, 16, 18, 119]), (22, [4, 16, 18]), (23, [4, 5])], [(2, [(1000000, 0), (1000001, 12), (7, 5)]), (3, [(1000000, 0), (1000001, 12), (7, 5)])]⟩ := by kernel_rfl
-- loop.example/g01121/spec.l01FCmp
theorem fn70 : TT.fn 70 = some Tryz.f70 := by kernel_rfl
theorem md70 : (TT.an 70).mode = 1 := by kernel_rfl
theorem fi70 : FI.of Tryz.f70 (TT.an 70) = ⟨[.tmp 4], 48, [(0, [2, 3]), (1, [2, 3, 14]), (2, [17]), (3, [4]), (4, [4]), (5, [2, 3, 5]), (6, [2, 5, 6]), (7, [2, 5, 6, 7]), (8, [2, 5, 6, 7, 38]), (9, [2, 5, 6, 7]), (10, [2, 7, 41]), (11, [2, 7]), (12, [7, 44]), (13, [4]), (14, [4])], [(5, [(1000000, 0), (1000001, 10), (7, 5)]), (6, [(1000000, 0), (1000001, 10), (7, 5)])]⟩ := by kernel_rfl
-- loop.example/g01121/impl.areFractions
theorem fn71 : TT.fn 71 = some Tryz.f71 := by kernel_rfl
theorem md71 : (TT.an 71).mode = 1 := by kernel_rfl
theorem fi71 : FI.of Tryz.f71 (TT.an 71) = ⟨[.tmp 2], 6, [(0, [0]), (1, [2])], []⟩ := by kernel_rfl
-- (loop.example/g01121/impl.ratio).absolute
theorem fn72 : TT.fn 72 = some Tryz.f72 := by kernel_rfl
theorem md72 : (TT.an 72).mode = 1 := by kernel_rfl
theorem fi72 : FI.of Tryz.f72 (TT.an 72) = ⟨[.cell 2 57], 5, [(0, [1, 2]), (1, [1, 2]), (2, [2])], []⟩ := by kernel_rfl
-- loop.example/g01121/spec.l01FMul
theorem fn73 : TT.fn 73 = some Tryz.f73 := by kernel_rfl
theorem md73 : (TT.an 73).mode = 1 := by kernel_rfl
theorem fi73 : FI.of Tryz.f73 (TT.an 73) = ⟨[.cell 4 33, .tmp 5], 67, [(0, [2, 3, 4]), (1, [2, 3, 4, 6]), (2, [4, 6, 7]), (3, [4, 6, 7, 8, 9]), (4, [4, 6, 7, 8, 9, 10, 11]), (5, [4, 6, 7, 8, 10, 53]), (6, [4, 5]), (7, [4, 8, 10, 61]), (8, [4, 8, 10]), (9, [4, 5])], [(3, [(7, 5), (9, 5)])]⟩ := by kernel_rfl
-- loop.example/g01121/spec.l01Gcd
theorem fn74 : TT.fn 74 = some Tryz.f74 := by kernel_rfl
theorem md74 : (TT.an 74).mode = 1 := by kernel_rfl
theorem fi74 : FI.of Tryz.f74 (TT.an 74) = ⟨[.tmp 4], 14, [(0, [0, 1]), (1, [0, 1, 7]), (2, [1, 5]), (3, [0, 5]), (4, [0, 1]), (5, [4])], []⟩ := by kernel_rfl
-- loop.example/g01121/spec.l00Max
theorem fn75 : TT.fn 75 = some Tryz.f75 := by kernel_rfl
theorem md75 : (TT.an 75).mode = 1 := by kernel_rfl
theorem fi75 : FI.of Tryz.f75 (TT.an 75) = ⟨[.tmp 4], 10, [(0, [0, 1]), (1, [0, 1, 7]), (2, [4]), (3, [4])], []⟩ := by kernel_rfl
-- slices.ContainsFunc[[]int64,int64]
theorem fn76 : TT.fn 76 = some Tryz.f76 := by kernel_rfl
theorem md76 : (TT.an 76).mode = 0 := by kernel_rfl
theorem fi76 : FI.of Tryz.f76 (TT.an 76) = ⟨[.tmp 4], 9, [(0, [0, 1]), (1, [4])], []⟩ := by kernel_rfl
-- loop.example/g01121/impl.allIn$1
theorem fn77 : TT.fn 77 = some Tryz.f77 := by kernel_rfl
theorem md77 : (TT.an 77).mode = 0 := by kernel_rfl
theorem fi77 : FI.of Tryz.f77 (TT.an 77) = ⟨[.tmp 4], 10, [(0, [0, 1, 2]), (1, [4])], []⟩ := by kernel_rfl
-- math/bits.Mul
theorem fn78 : TT.fn 78 = some Tryz.f78 := by kernel_rfl
theorem md78 : (TT.an 78).mode = 1 := by kernel_rfl
theorem fi78 : FI.of Tryz.f78 (TT.an 78) = ⟨[.tmp 4, .tmp 5], 30, [(0, [0, 1]), (1, [6, 7]), (2, [4, 5]), (3, [8, 9]), (4, [4, 5])], []⟩ := by kernel_rfl
-- loop.example/g01121/impl.parity
theorem fn79 : TT.fn 79 = some Tryz.f79 := by kernel_rfl
theorem md79 : (TT.an 79).mode = 1 := by kernel_rfl
theorem fi79 : FI.of Tryz.f79 (TT.an 79) = ⟨[.tmp 2], 7, [(0, [0]), (1, [2])], []⟩ := by kernel_rfl
-- (loop.example/g01121/impl.natural).trim
theorem fn80 : TT.fn 80 = some Tryz.f80 := by kernel_rfl
theorem md80 : (TT.an 80).mode = 1 := by kernel_rfl
theorem fi80 : FI.of Tryz.f80 (TT.an 80) = ⟨[.tmp 2], 21, [(0, [0]), (1, [0, 3]), (2, [0, 3, 15]), (3, [0, 3]), (4, [2])], []⟩ := by kernel_rfl
-- (loop.example/g01121/impl.natural).shared
theorem fn81 : TT.fn 81 = some Tryz.f81 := by kernel_rfl
theorem md81 : (TT.an 81).mode = 1 := by kernel_rfl
theorem fi81 : FI.of Tryz.f81 (TT.an 81) = ⟨[.tmp 4], 19, [(0, [0, 1]), (1, [0, 1, 9]), (2, [1, 6]), (3, [0, 1]), (4, [4])], []⟩ := by kernel_rfl
-- (loop.example/g01121/impl.natural).over
theorem fn82 : TT.fn 82 = some Tryz.f82 := by kernel_rfl
theorem md82 : (TT.an 82).mode = 1 := by kernel_rfl
theorem fi82 : FI.of Tryz.f82 (TT.an 82) = ⟨[.tmp 4, .tmp 5], 132, [(0, [0, 1]), (1, [0, 1, 21]), (2, [4, 5]), (3, [0, 1, 6]), (4, [6, 7, 8]), (5, [6, 7, 8, 9]), (6, [6, 7, 8, 9, 10]), (7, [6, 7, 8, 9, 10, 11]), (8, [6, 7, 8, 9, 10, 11, 48]), (9, [6, 7, 8, 9, 10, 11]), (10, [6, 7, 8, 9, 10, 11, 12]), (11, [6, 7, 8, 9, 10, 11, 13]), (12, [6, 7, 8, 9, 10, 11, 13, 14]), (13, [6, 7, 8, 9, 10, 11, 13, 14, 93]), (14, [6, 7, 8, 9, 10, 11, 13, 15]), (15, [6, 7, 8, 9, 10, 11, 13, 15]), (16, [6, 7, 8, 9, 10, 11, 13]), (17, [6, 7, 8, 9, 10, 11, 13]), (18, [6, 7, 8, 9, 10, 11]), (19, [10, 17]), (20, [4, 5])], []⟩ := by kernel_rfl
-- (loop.example/g01121/impl.ratio).opposite
theorem fn83 : TT.fn 83 = some Tryz.f83 := by kernel_rfl
theorem md83 : (TT.an 83).mode = 1 := by kernel_rfl
theorem fi83 : FI.of Tryz.f83 (TT.an 83) = ⟨[.cell 2 57], 14, [(0, [1, 2]), (1, [1, 2]), (2, [2])], []⟩ := by kernel_rfl
-- math/bits.Len64
theorem fn84 : TT.fn 84 = some Tryz.f84 := by kernel_rfl
theorem md84 : (TT.an 84).mode = 1 := by kernel_rfl
theorem fi84 : FI.of Tryz.f84 (TT.an 84) = ⟨[.tmp 2], 25, [(0, [0, 2]), (1, [0, 2, 4]), (2, [0]), (3, [0, 2]), (4, [0, 2, 8]), (5, [0, 2]), (6, [0, 2]), (7, [0, 2, 14]), (8, [0, 2]), (9, [0, 2]), (10, [2])], []⟩ := by kernel_rfl
-- loop.example/g01121/spec.l00In
theorem fn85 : TT.fn 85 = some Tryz.f85 := by kernel_rfl
theorem md85 : (TT.an 85).mode = 1 := by kernel_rfl
theorem fi85 : FI.of Tryz.f85 (TT.an 85) = ⟨[.tmp 6], 15, [(0, [0, 1, 2]), (1, [6])], []⟩ := by kernel_rfl
-- loop.example/g01121/spec.l01Times
theorem fn86 : TT.fn 86 = some Tryz.f86 := by kernel_rfl
theorem md86 : (TT.an 86).mode = 1 := by kernel_rfl
theorem fi86 : FI.of Tryz.f86 (TT.an 86) = ⟨[.cell 4 106], 74, [(0, [0, 1, 4]), (1, [1, 4, 5]), (2, [4, 5, 6]), (3, [4, 5, 6, 7]), (4, [4, 5, 6, 7, 8]), (5, [4, 5, 6, 7, 8, 9]), (6, [4, 5, 6, 7, 8, 9, 10]), (7, [4, 5, 6, 7, 8, 9, 10, 11]), (8, [4])], []⟩ := by kernel_rfl
-- loop.example/g01121/spec.l01Plus
theorem fn87 : TT.fn 87 = some Tryz.f87 := by kernel_rfl
theorem md87 : (TT.an 87).mode = 1 := by kernel_rfl
theorem fi87 : FI.of Tryz.f87 (TT.an 87) = ⟨[.cell 4 106], 27, [(0, [2, 3, 4]), (1, [2, 4, 5]), (2, [4, 5, 21]), (3, [4, 5]), (4, [4])], []⟩ := by kernel_rfl
-- loop.example/g01121/spec.l01Less
theorem fn88 : TT.fn 88 = some Tryz.f88 := by kernel_rfl
theorem md88 : (TT.an 88).mode = 1 := by kernel_rfl
theorem fi88 : FI.of Tryz.f88 (TT.an 88) = ⟨[.tmp 4], 24, [(0, [2, 3]), (1, [4])], []⟩ := by kernel_rfl
-- loop.example/g01121/spec.l01Minus
theorem fn89 : TT.fn 89 = some Tryz.f89 := by kernel_rfl
theorem md89 : (TT.an 89).mode = 1 := by kernel_rfl
theorem fi89 : FI.of Tryz.f89 (TT.an 89) = ⟨[.cell 4 106], 27, [(0, [2, 3, 4]), (1, [2, 3, 4, 5]), (2, [4, 5, 21]), (3, [4, 5]), (4, [4])], []⟩ := by kernel_rfl
-- loop.example/g01121/spec.l01Split
theorem fn90 : TT.fn 90 = some Tryz.f90 := by kernel_rfl
theorem md90 : (TT.an 90).mode = 1 := by kernel_rfl
theorem fi90 : FI.of Tryz.f90 (TT.an 90) = ⟨[.cell 4 106, .tmp 5], 61, [(0, [1, 2, 4]), (1, [1, 2, 4, 6]), (2, [1, 2, 4, 6, 7]), (3, [1, 2, 4, 6, 7, 8]), (4, [1, 2, 4, 6, 7, 8, 12]), (5, [1, 2, 4, 6, 7, 8]), (6, [1, 2, 4, 6, 7, 8, 9]), (7, [1, 2, 4, 6, 7, 8, 9, 23]), (8, [1, 2, 4, 6, 7, 8, 9]), (9, [1, 2, 4, 6, 7, 8]), (10, [1, 2, 4, 6, 7, 8]), (11, [1, 2, 4, 6, 7, 8, 49]), (12, [1, 2, 4, 6, 7, 8]), (13, [1, 2, 4, 6, 7, 8]), (14, [4, 5])], []⟩ := by kernel_rfl
-- loop.example/g01121/spec.l01Small
theorem fn91 : TT.fn 91 = some Tryz.f91 := by kernel_rfl
theorem md91 : (TT.an 91).mode = 1 := by kernel_rfl
theorem fi91 : FI.of Tryz.f91 (TT.an 91) = ⟨[.tmp 2, .tmp 3], 15, [(0, [1]), (1, [1, 11]), (2, [2, 3]), (3, [2, 3])], []⟩ := by kernel_rfl
-- slices.ContainsFunc[[]loop.example/g01121/impl.Fraction,loop.example/g01121/impl.Fraction]
theorem fn92 : TT.fn 92 = some Tryz.f92 := by kernel_rfl
theorem md92 : (TT.an 92).mode = 0 := by kernel_rfl
theorem fi92 : FI.of Tryz.f92 (TT.an 92) = ⟨[.tmp 4], 9, [(0, [0, 1]), (1, [4])], []⟩ := by kernel_rfl
-- loop.example/g01121/impl.areFractions$1
theorem fn93 : TT.fn 93 = some Tryz.f93 := by kernel_rfl
theorem md93 : (TT.an 93).mode = 1 := by kernel_rfl
theorem fi93 : FI.of Tryz.f93 (TT.an 93) = ⟨[.tmp 2], 6, [(0, [1]), (1, [2])], []⟩ := by kernel_rfl
-- loop.example/g01121/impl.ValidFraction
theorem fn94 : TT.fn 94 = some Tryz.f94 := by kernel_rfl
theorem md94 : (TT.an 94).mode = 1 := by kernel_rfl
theorem fi94 : FI.of Tryz.f94 (TT.an 94) = ⟨[.tmp 2], 20, [(0, [1]), (1, [2])], [(1, [(13, 11)])]⟩ := by kernel_rfl
-- slices.IndexFunc[[]int64,int64]
theorem fn95 : TT.fn 95 = some Tryz.f95 := by kernel_rfl
theorem md95 : (TT.an 95).mode = 0 := by kernel_rfl
theorem fi95 : FI.of Tryz.f95 (TT.an 95) = ⟨[.tmp 4], 19, [(0, [0, 1]), (1, [0, 1, 7, 8]), (2, [0, 1, 7, 8, 9]), (3, [0, 1, 5, 7, 8]), (4, [0, 1, 5, 7, 8, 16]), (5, [4]), (6, [0, 1, 7, 8]), (7, [4])], []⟩ := by kernel_rfl
-- math/bits.Mul32
theorem fn96 : TT.fn 96 = some Tryz.f96 := by kernel_rfl
theorem md96 : (TT.an 96).mode = 1 := by kernel_rfl
theorem fi96 : FI.of Tryz.f96 (TT.an 96) = ⟨[.tmp 4, .tmp 5], 17, [(0, [0, 1]), (1, [6]), (2, [4, 5])], []⟩ := by kernel_rfl
-- math/bits.Mul64
theorem fn97 : TT.fn 97 = some Tryz.f97 := by kernel_rfl
theorem md97 : (TT.an 97).mode = 1 := by kernel_rfl
theorem fi97 : FI.of Tryz.f97 (TT.an 97) = ⟨[.tmp 4, .tmp 5], 51, [(0, [0, 1]), (1, [0, 1, 6]), (2, [0, 1, 6, 7]), (3, [0, 1, 6, 7, 8]), (4, [0, 1, 6, 7, 8, 9]), (5, [0, 1, 6, 7, 8, 9, 10]), (6, [0, 1, 6, 7, 9, 11]), (7, [0, 1, 6, 7, 9, 11, 12]), (8, [0, 1, 6, 7, 9, 12, 13]), (9, [0, 1, 7, 9, 12, 13]), (10, [0, 1, 4]), (11, [4, 5])], []⟩ := by kernel_rfl
-- math/bits.OnesCount64
theorem fn98 : TT.fn 98 = some Tryz.f98 := by kernel_rfl
theorem md98 : (TT.an 98).mode = 1 := by kernel_rfl
theorem fi98 : FI.of Tryz.f98 (TT.an 98) = ⟨[.tmp 2], 35, [(0, [0]), (1, [0]), (2, [0]), (3, [0]), (4, [0]), (5, [0]), (6, [0]), (7, [2])], []⟩ := by kernel_rfl
-- math/bits.LeadingZeros32
theorem fn99 : TT.fn 99 = some Tryz.f99 := by kernel_rfl
theorem md99 : (TT.an 99).mode = 1 := by kernel_rfl
theorem fi99 : FI.of Tryz.f99 (TT.an 99) = ⟨[.tmp 2], 6, [(0, [0]), (1, [2])], []⟩ := by kernel_rfl
-- (loop.example/g01121/impl.natural).up
theorem fn100 : TT.fn 100 = some Tryz.f100 := by kernel_rfl
theorem md100 : (TT.an 100).mode = 2 := by kernel_rfl
theorem fi100 : FI.of Tryz.f100 (TT.an 100) = ⟨[.tmp 4], 41, [(0, [0, 1]), (1, [0, 1, 5, 6]), (2, [0, 1, 5, 6, 13, 14, 15]), (3, [0, 1, 5, 6, 13, 14, 15, 16]), (4, [0, 1, 5, 6, 7, 8, 13, 14, 15]), (5, [0, 1, 5, 6, 7, 13, 14, 15]), (6, [0, 1, 5, 6, 13, 14, 15]), (7, [0, 1, 5, 6, 13, 14, 15]), (8, [0, 1, 5, 6, 13, 14, 15]), (9, [5]), (10, [4])], []⟩ := by kernel_rfl
-- slices.Clone[loop.example/g01121/impl.natural,uint32]
theorem fn101 : TT.fn 101 = some Tryz.f101 := by kernel_rfl
theorem md101 : (TT.an 101).mode = 2 := by kernel_rfl
theorem fi101 : FI.of Tryz.f101 (TT.an 101) = ⟨[.tmp 2], 8, [(0, [0]), (1, [0, 4]), (2, [2]), (3, [2])], []⟩ := by kernel_rfl
-- (loop.example/g01121/impl.natural).down
theorem fn102 : TT.fn 102 = some Tryz.f102 := by kernel_rfl
theorem md102 : (TT.an 102).mode = 1 := by kernel_rfl
theorem fi102 : FI.of Tryz.f102 (TT.an 102) = ⟨[.tmp 4, .tmp 5], 43, [(0, [0, 1]), (1, [0, 1, 6, 7]), (2, [0, 1, 6, 7, 8]), (3, [0, 1, 6, 7, 8, 16]), (4, [0, 1, 6, 7, 8]), (5, [0, 1, 6, 7, 8]), (6, [0, 1, 6, 7, 8]), (7, [0, 1, 6, 7, 8]), (8, [4, 5])], []⟩ := by kernel_rfl
-- slices.IndexFunc[[]loop.example/g01121/impl.Fraction,loop.example/g01121/impl.Fraction]
theorem fn103 : TT.fn 103 = some Tryz.f103 := by kernel_rfl
theorem md103 : (TT.an 103).mode = 0 := by kernel_rfl
theorem fi103 : FI.of Tryz.f103 (TT.an 103) = ⟨[.tmp 4], 19, [(0, [0, 1]), (1, [0, 1, 7, 8]), (2, [0, 1, 7, 8, 9]), (3, [0, 1, 5, 7, 8]), (4, [0, 1, 5, 7, 8, 16]), (5, [4]), (6, [0, 1, 7, 8]), (7, [4])], []⟩ := by kernel_rfl
-- loop.example/g01121/impl.divisor
theorem fn104 : TT.fn 104 = some Tryz.f104 := by kernel_rfl
theorem md104 : (TT.an 104).mode = 1 := by kernel_rfl
theorem fi104 : FI.of Tryz.f104 (TT.an 104) = ⟨[.tmp 4], 12, [(0, [0, 1]), (1, [0, 1, 6]), (2, [0, 1]), (3, [4])], []⟩ := by kernel_rfl
-- math/bits.Len32
theorem fn105 : TT.fn 105 = some Tryz.f105 := by kernel_rfl
theorem md105 : (TT.an 105).mode = 1 := by kernel_rfl
theorem fi105 : FI.of Tryz.f105 (TT.an 105) = ⟨[.tmp 2], 19, [(0, [0, 2]), (1, [0, 2, 4]), (2, [0]), (3, [0, 2]), (4, [0, 2, 8]), (5, [0, 2]), (6, [0, 2]), (7, [2])], []⟩ := by kernel_rfl
theorem ty1 : TT.ty 1 = some ⟨.func, 1, 8, [.nilF]⟩ := by kernel_rfl
theorem ty2 : TT.ty 2 = some ⟨.int .i64, 1, 8, [.int .i64 0]⟩ := by kernel_rfl
theorem ty3 : TT.ty 3 = some ⟨.int .i64, 1, 8, [.int .i64 0]⟩ := by kernel_rfl
theorem ty4 : TT.ty 4 = some ⟨.bool, 1, 1, [.bool false]⟩ := by kernel_rfl
theorem ty5 : TT.ty 5 = some ⟨.int .u8, 1, 1, [.int .u8 0]⟩ := by kernel_rfl
theorem ty6 : TT.ty 6 = some ⟨.int .u8, 1, 1, [.int .u8 0]⟩ := by kernel_rfl
theorem ty7 : TT.ty 7 = some ⟨.struct [(2, 0), (3, 1), (4, 2), (6, 3)], 4, 24, [.int .i64 0, .int .i64 0, .bool false, .int .u8 0]⟩ := by kernel_rfl
theorem ty8 : TT.ty 8 = some ⟨.struct [(2, 0), (3, 1), (4, 2), (6, 3)], 4, 24, [.int .i64 0, .int .i64 0, .bool false, .int .u8 0]⟩ := by kernel_rfl
theorem ty9 : TT.ty 9 = some ⟨.string, 1, 16, [.str []]⟩ := by kernel_rfl
theorem ty10 : TT.ty 10 = some ⟨.string, 1, 16, [.str []]⟩ := by kernel_rfl
theorem ty11 : TT.ty 11 = some ⟨.string, 1, 16, [.str []]⟩ := by kernel_rfl
theorem ty12 : TT.ty 12 = some ⟨.int .u64, 1, 8, [.int .u64 0]⟩ := by kernel_rfl
theorem ty15 : TT.ty 15 = some ⟨.pointer, 1, 8, [.nilP]⟩ := by kernel_rfl
theorem ty16 : TT.ty 16 = some ⟨.pointer, 1, 8, [.nilP]⟩ := by kernel_rfl
theorem ty17 : TT.ty 17 = some ⟨.pointer, 1, 8, [.nilP]⟩ := by kernel_rfl
theorem ty20 : TT.ty 20 = some ⟨.iface, 1, 16, [.nilI]⟩ := by kernel_rfl
theorem ty21 : TT.ty 21 = some ⟨.int .i32, 1, 4, [.int .i32 0]⟩ := by kernel_rfl
theorem ty22 : TT.ty 22 = some ⟨.slice 5, 1, 24, [.nilS]⟩ := by kernel_rfl
theorem ty23 : TT.ty 23 = some ⟨.func, 1, 8, [.nilF]⟩ := by kernel_rfl
theorem ty24 : TT.ty 24 = some ⟨.slice 33, 1, 24, [.nilS]⟩ := by kernel_rfl
theorem ty25 : TT.ty 25 = some ⟨.func, 1, 8, [.nilF]⟩ := by kernel_rfl
theorem ty26 : TT.ty 26 = some ⟨.int .u64, 1, 8, [.int .u64 0]⟩ := by kernel_rfl
theorem ty27 : TT.ty 27 = some ⟨.func, 1, 8, [.nilF]⟩ := by kernel_rfl
theorem ty28 : TT.ty 28 = some ⟨.slice 2, 1, 24, [.nilS]⟩ := by kernel_rfl
theorem ty29 : TT.ty 29 = some ⟨.func, 1, 8, [.nilF]⟩ := by kernel_rfl
theorem ty31 : TT.ty 31 = some ⟨.func, 1, 8, [.nilF]⟩ := by kernel_rfl
theorem ty32 : TT.ty 32 = some ⟨.struct [(2, 0), (2, 1)], 2, 16, [.int .i64 0, .int .i64 0]⟩ := by kernel_rfl
theorem ty33 : TT.ty 33 = some ⟨.struct [(2, 0), (2, 1)], 2, 16, [.int .i64 0, .int .i64 0]⟩ := by kernel_rfl
theorem ty35 : TT.ty 35 = some ⟨.func, 1, 8, [.nilF]⟩ := by kernel_rfl
theorem ty36 : TT.ty 36 = some ⟨.func, 1, 8, [.nilF]⟩ := by kernel_rfl
theorem ty37 : TT.ty 37 = some ⟨.func, 1, 8, [.nilF]⟩ := by kernel_rfl
theorem ty38 : TT.ty 38 = some ⟨.func, 1, 8, [.nilF]⟩ := by kernel_rfl
theorem ty40 : TT.ty 40 = some ⟨.func, 1, 8, [.nilF]⟩ := by kernel_rfl
theorem ty41 : TT.ty 41 = some ⟨.func, 1, 8, [.nilF]⟩ := by kernel_rfl
theorem ty42 : TT.ty 42 = some ⟨.func, 1, 8, [.nilF]⟩ := by kernel_rfl
theorem ty43 : TT.ty 43 = some ⟨.func, 1, 8, [.nilF]⟩ := by kernel_rfl
theorem ty44 : TT.ty 44 = some ⟨.func, 1, 8, [.nilF]⟩ := by kernel_rfl
theorem ty45 : TT.ty 45 = some ⟨.pointer, 1, 8, [.nilP]⟩ := by kernel_rfl
theorem ty46 : TT.ty 46 = some ⟨.func, 1, 8, [.nilF]⟩ := by kernel_rfl
theorem ty47 : TT.ty 47 = some ⟨.func, 1, 8, [.nilF]⟩ := by kernel_rfl
theorem ty48 : TT.ty 48 = some ⟨.func, 1, 8, [.nilF]⟩ := by kernel_rfl
theorem ty49 : TT.ty 49 = some ⟨.func, 1, 8, [.nilF]⟩ := by kernel_rfl
theorem ty50 : TT.ty 50 = some ⟨.func, 1, 8, [.nilF]⟩ := by kernel_rfl
theorem ty51 : TT.ty 51 = some ⟨.slice 57, 1, 24, [.nilS]⟩ := by kernel_rfl
theorem ty52 : TT.ty 52 = some ⟨.func, 1, 8, [.nilF]⟩ := by kernel_rfl
theorem ty53 : TT.ty 53 = some ⟨.func, 1, 8, [.nilF]⟩ := by kernel_rfl
theorem ty54 : TT.ty 54 = some ⟨.slice 100, 1, 24, [.nilS]⟩ := by kernel_rfl
theorem ty55 : TT.ty 55 = some ⟨.slice 100, 1, 24, [.nilS]⟩ := by kernel_rfl
theorem ty56 : TT.ty 56 = some ⟨.struct [(4, 0), (55, 1), (55, 2)], 3, 56, [.bool false, .nilS, .nilS]⟩ := by kernel_rfl
theorem ty57 : TT.ty 57 = some ⟨.struct [(4, 0), (55, 1), (55, 2)], 3, 56, [.bool false, .nilS, .nilS]⟩ := by kernel_rfl
theorem ty58 : TT.ty 58 = some ⟨.func, 1, 8, [.nilF]⟩ := by kernel_rfl
theorem ty59 : TT.ty 59 = some ⟨.func, 1, 8, [.nilF]⟩ := by kernel_rfl
theorem ty60 : TT.ty 60 = some ⟨.func, 1, 8, [.nilF]⟩ := by kernel_rfl
theorem ty61 : TT.ty 61 = some ⟨.func, 1, 8, [.nilF]⟩ := by kernel_rfl
theorem ty62 : TT.ty 62 = some ⟨.func, 1, 8, [.nilF]⟩ := by kernel_rfl
theorem ty63 : TT.ty 63 = some ⟨.func, 1, 8, [.nilF]⟩ := by kernel_rfl
theorem ty64 : TT.ty 64 = some ⟨.func, 1, 8, [.nilF]⟩ := by kernel_rfl
theorem ty65 : TT.ty 65 = some ⟨.func, 1, 8, [.nilF]⟩ := by kernel_rfl
theorem ty66 : TT.ty 66 = some ⟨.func, 1, 8, [.nilF]⟩ := by kernel_rfl
theorem ty67 : TT.ty 67 = some ⟨.func, 1, 8, [.nilF]⟩ := by kernel_rfl
theorem ty68 : TT.ty 68 = some ⟨.func, 1, 8, [.nilF]⟩ := by kernel_rfl
theorem ty69 : TT.ty 69 = some ⟨.func, 1, 8, [.nilF]⟩ := by kernel_rfl
theorem ty70 : TT.ty 70 = some ⟨.func, 1, 8, [.nilF]⟩ := by kernel_rfl
theorem ty71 : TT.ty 71 = some ⟨.func, 1, 8, [.nilF]⟩ := by kernel_rfl
theorem ty72 : TT.ty 72 = some ⟨.func, 1, 8, [.nilF]⟩ := by kernel_rfl
theorem ty73 : TT.ty 73 = some ⟨.int .u64, 1, 8, [.int .u64 0]⟩ := by kernel_rfl
theorem ty74 : TT.ty 74 = some ⟨.struct [(22, 0), (3, 1), (73, 2)], 3, 40, [.nilS, .int .i64 0, .int .u64 0]⟩ := by kernel_rfl
theorem ty75 : TT.ty 75 = some ⟨.struct [(22, 0), (3, 1), (73, 2)], 3, 40, [.nilS, .int .i64 0, .int .u64 0]⟩ := by kernel_rfl
theorem ty76 : TT.ty 76 = some ⟨.func, 1, 8, [.nilF]⟩ := by kernel_rfl
theorem ty77 : TT.ty 77 = some ⟨.func, 1, 8, [.nilF]⟩ := by kernel_rfl
theorem ty78 : TT.ty 78 = some ⟨.func, 1, 8, [.nilF]⟩ := by kernel_rfl
theorem ty79 : TT.ty 79 = some ⟨.func, 1, 8, [.nilF]⟩ := by kernel_rfl
theorem ty80 : TT.ty 80 = some ⟨.func, 1, 8, [.nilF]⟩ := by kernel_rfl
theorem ty81 : TT.ty 81 = some ⟨.func, 1, 8, [.nilF]⟩ := by kernel_rfl
theorem ty82 : TT.ty 82 = some ⟨.func, 1, 8, [.nilF]⟩ := by kernel_rfl
theorem ty83 : TT.ty 83 = some ⟨.func, 1, 8, [.nilF]⟩ := by kernel_rfl
theorem ty84 : TT.ty 84 = some ⟨.func, 1, 8, [.nilF]⟩ := by kernel_rfl
theorem ty85 : TT.ty 85 = some ⟨.func, 1, 8, [.nilF]⟩ := by kernel_rfl
theorem ty86 : TT.ty 86 = some ⟨.func, 1, 8, [.nilF]⟩ := by kernel_rfl
theorem ty87 : TT.ty 87 = some ⟨.func, 1, 8, [.nilF]⟩ := by kernel_rfl
theorem ty88 : TT.ty 88 = some ⟨.func, 1, 8, [.nilF]⟩ := by kernel_rfl
theorem ty89 : TT.ty 89 = some ⟨.func, 1, 8, [.nilF]⟩ := by kernel_rfl
theorem ty90 : TT.ty 90 = some ⟨.func, 1, 8, [.nilF]⟩ := by kernel_rfl
theorem ty91 : TT.ty 91 = some ⟨.func, 1, 8, [.nilF]⟩ := by kernel_rfl
theorem ty92 : TT.ty 92 = some ⟨.func, 1, 8, [.nilF]⟩ := by kernel_rfl
theorem ty93 : TT.ty 93 = some ⟨.func, 1, 8, [.nilF]⟩ := by kernel_rfl
theorem ty94 : TT.ty 94 = some ⟨.func, 1, 8, [.nilF]⟩ := by kernel_rfl
theorem ty95 : TT.ty 95 = some ⟨.func, 1, 8, [.nilF]⟩ := by kernel_rfl
theorem ty96 : TT.ty 96 = some ⟨.func, 1, 8, [.nilF]⟩ := by kernel_rfl
theorem ty97 : TT.ty 97 = some ⟨.func, 1, 8, [.nilF]⟩ := by kernel_rfl
theorem ty99 : TT.ty 99 = some ⟨.func, 1, 8, [.nilF]⟩ := by kernel_rfl
theorem ty100 : TT.ty 100 = some ⟨.int .u32, 1, 4, [.int .u32 0]⟩ := by kernel_rfl
theorem ty101 : TT.ty 101 = some ⟨.func, 1, 8, [.nilF]⟩ := by kernel_rfl
theorem ty103 : TT.ty 103 = some ⟨.func, 1, 8, [.nilF]⟩ := by kernel_rfl
theorem ty104 : TT.ty 104 = some ⟨.func, 1, 8, [.nilF]⟩ := by kernel_rfl
theorem ty105 : TT.ty 105 = some ⟨.struct [(73, 0), (73, 1)], 2, 16, [.int .u64 0, .int .u64 0]⟩ := by kernel_rfl
theorem ty106 : TT.ty 106 = some ⟨.struct [(73, 0), (73, 1)], 2, 16, [.int .u64 0, .int .u64 0]⟩ := by kernel_rfl
theorem ty107 : TT.ty 107 = some ⟨.func, 1, 8, [.nilF]⟩ := by kernel_rfl
theorem ty108 : TT.ty 108 = some ⟨.func, 1, 8, [.nilF]⟩ := by kernel_rfl
theorem ty109 : TT.ty 109 = some ⟨.func, 1, 8, [.nilF]⟩ := by kernel_rfl
theorem ty111 : TT.ty 111 = some ⟨.func, 1, 8, [.nilF]⟩ := by kernel_rfl
theorem ty112 : TT.ty 112 = some ⟨.func, 1, 8, [.nilF]⟩ := by kernel_rfl
theorem ty113 : TT.ty 113 = some ⟨.func, 1, 8, [.nilF]⟩ := by kernel_rfl
theorem ty114 : TT.ty 114 = some ⟨.func, 1, 8, [.nilF]⟩ := by kernel_rfl
theorem ty116 : TT.ty 116 = some ⟨.func, 1, 8, [.nilF]⟩ := by kernel_rfl
theorem ty118 : TT.ty 118 = some ⟨.func, 1, 8, [.nilF]⟩ := by kernel_rfl
theorem ty119 : TT.ty 119 = some ⟨.func, 1, 8, [.nilF]⟩ := by kernel_rfl
theorem ty120 : TT.ty 120 = some ⟨.func, 1, 8, [.nilF]⟩ := by kernel_rfl
theorem ty122 : TT.ty 122 = some ⟨.func, 1, 8, [.nilF]⟩ := by kernel_rfl
theorem ty123 : TT.ty 123 = some ⟨.func, 1, 8, [.nilF]⟩ := by kernel_rfl
theorem ty124 : TT.ty 124 = some ⟨.func, 1, 8, [.nilF]⟩ := by kernel_rfl
theorem ty127 : TT.ty 127 = some ⟨.array 0 16, 0, 0, []⟩ := by kernel_rfl
theorem ty130 : TT.ty 130 = some ⟨.func, 1, 8, [.nilF]⟩ := by kernel_rfl
theorem ty131 : TT.ty 131 = some ⟨.int .u8, 1, 1, [.int .u8 0]⟩ := by kernel_rfl
theorem ty132 : TT.ty 132 = some ⟨.int .u8, 1, 1, [.int .u8 0]⟩ := by kernel_rfl
theorem ty133 : TT.ty 133 = some ⟨.func, 1, 8, [.nilF]⟩ := by kernel_rfl
theorem ty134 : TT.ty 134 = some ⟨.pointer, 1, 8, [.nilP]⟩ := by kernel_rfl
theorem ty135 : TT.ty 135 = some ⟨.int .i32, 1, 4, [.int .i32 0]⟩ := by kernel_rfl
theorem ty136 : TT.ty 136 = some ⟨.int .i32, 1, 4, [.int .i32 0]⟩ := by kernel_rfl
theorem ty139 : TT.ty 139 = some ⟨.other, 1, 8, [.nilP]⟩ := by kernel_rfl
end Go.Proofs.YtkglajdhlmmlfaaGreat
