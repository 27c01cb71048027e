/- Facts on the tables of this seat. Nothing is claimed here; no condition. -/
import Derived.Test.YtihoeimlkbjgmaaAbsY
import Derived.Test.YtihoeimlkbjgmaaTab
namespace Go.Proofs.Ytihoeimlkbjgmaa
open Go Go.Abs
-- loop.example/g01121/laws.FnExactIsSource
theorem fn3 : TT.fn 3 = some Try.f3 := by kernel_rfl
theorem md3 : (TT.an 3).mode = 1 := by kernel_rfl
theorem fi3 : FI.of Try.f3 (TT.an 3) = ⟨[.tmp 2], 27, [(0, [0]), (1, [0, 3]), (2, [0, 3]), (3, [0, 11]), (4, [2]), (5, [0, 4]), (6, [0, 4, 5]), (7, [0, 4, 5, 6]), (8, [0, 5, 21]), (9, [2]), (10, [26]), (11, [2]), (12, [2])], []⟩ := by kernel_rfl
-- loop.example/g01121/laws.FnExactValidWalk
theorem fn4 : TT.fn 4 = some Try.f4 := by kernel_rfl
theorem md4 : (TT.an 4).mode = 1 := by kernel_rfl
theorem fi4 : FI.of Try.f4 (TT.an 4) = ⟨[.tmp 2], 27, [(0, [1]), (1, [1, 3]), (2, [1, 3]), (3, [1, 11]), (4, [2]), (5, [1, 4]), (6, [1, 4, 5]), (7, [1, 4, 5, 6]), (8, [1, 5, 21]), (9, [2]), (10, [26]), (11, [2]), (12, [2])], [(10, [(0, 2)])]⟩ := by kernel_rfl
-- loop.example/g01121/laws.FnExactGreatestOf
theorem fn5 : TT.fn 5 = some Try.f5 := by kernel_rfl
theorem md5 : (TT.an 5).mode = 1 := by kernel_rfl
theorem fi5 : FI.of Try.f5 (TT.an 5) = ⟨[.tmp 2], 41, [(0, [0]), (1, [0, 3]), (2, [0, 3]), (3, [0, 13]), (4, [2]), (5, [0, 4, 5]), (6, [0, 4, 5, 6]), (7, [0, 4, 5, 6, 7, 8]), (8, [0, 6, 35]), (9, [2]), (10, [40]), (11, [2]), (12, [2])], []⟩ := by kernel_rfl
-- loop.example/g01121/laws.FnExactDistanceOf
theorem fn6 : TT.fn 6 = some Try.f6 := by kernel_rfl
theorem md6 : (TT.an 6).mode = 1 := by kernel_rfl
theorem fi6 : FI.of Try.f6 (TT.an 6) = ⟨[.tmp 4], 59, [(0, [0, 1]), (1, [0, 1, 5]), (2, [0, 1, 5]), (3, [0, 1, 5, 16]), (4, [4]), (5, [0, 1, 5]), (6, [0, 1, 21]), (7, [4]), (8, [0, 1, 6, 7]), (9, [0, 1, 6, 7, 8]), (10, [0, 1, 6, 7, 8, 9]), (11, [0, 1, 6, 7, 8, 9, 10, 11]), (12, [0, 1, 8, 9, 48]), (13, [4]), (14, [1, 9, 53]), (15, [4]), (16, [58]), (17, [4]), (18, [4])], []⟩ := by kernel_rfl
-- loop.example/g01121/laws.FnExactCollisionOf
theorem fn7 : TT.fn 7 = some Try.f7 := by kernel_rfl
theorem md7 : (TT.an 7).mode = 1 := by kernel_rfl
theorem fi7 : FI.of Try.f7 (TT.an 7) = ⟨[.tmp 2], 41, [(0, [0]), (1, [0, 3]), (2, [0, 3]), (3, [0, 13]), (4, [2]), (5, [0, 4, 5]), (6, [0, 4, 5, 6]), (7, [0, 4, 5, 6, 7, 8]), (8, [0, 6, 35]), (9, [2]), (10, [40]), (11, [2]), (12, [2])], []⟩ := by kernel_rfl
-- loop.example/g01121/laws.FnExactContractionOf
theorem fn8 : TT.fn 8 = some Try.f8 := by kernel_rfl
theorem md8 : (TT.an 8).mode = 1 := by kernel_rfl
theorem fi8 : FI.of Try.f8 (TT.an 8) = ⟨[.tmp 2], 41, [(0, [1]), (1, [1, 3]), (2, [1, 3]), (3, [1, 13]), (4, [2]), (5, [1, 4, 5]), (6, [1, 4, 5, 6]), (7, [1, 4, 5, 6, 7, 8]), (8, [1, 6, 35]), (9, [2]), (10, [40]), (11, [2]), (12, [2])], [(10, [(0, 2)])]⟩ := by kernel_rfl
-- loop.example/g01121/laws.FnExactRiffleChance
theorem fn9 : TT.fn 9 = some Try.f9 := by kernel_rfl
theorem md9 : (TT.an 9).mode = 1 := by kernel_rfl
theorem fi9 : FI.of Try.f9 (TT.an 9) = ⟨[.tmp 4], 42, [(0, [0, 1]), (1, [0, 1, 12]), (2, [4]), (3, [0, 1, 5, 6]), (4, [0, 1, 5, 6, 7]), (5, [0, 5, 6, 7, 8, 9]), (6, [0, 7, 36]), (7, [4]), (8, [41]), (9, [4]), (10, [4])], []⟩ := by kernel_rfl
-- loop.example/g01121/laws.FnExactRiffleDistance
theorem fn10 : TT.fn 10 = some Try.f10 := by kernel_rfl
theorem md10 : (TT.an 10).mode = 1 := by kernel_rfl
theorem fi10 : FI.of Try.f10 (TT.an 10) = ⟨[.tmp 4], 30, [(0, [0, 1]), (1, [0, 1, 5, 6]), (2, [5, 6, 7, 8]), (3, [29]), (4, [4]), (5, [4])], []⟩ := by kernel_rfl
-- loop.example/g01121/laws.FnBestRows
theorem fn11 : TT.fn 11 = some Try.f11 := by kernel_rfl
theorem md11 : (TT.an 11).mode = 1 := by kernel_rfl
theorem fi11 : FI.of Try.f11 (TT.an 11) = ⟨[.tmp 4], 94, [(0, [0, 1]), (1, [0, 1, 19]), (2, [4]), (3, [1, 5]), (4, [1, 5, 6]), (5, [1, 5, 6, 27]), (6, [1, 5, 6]), (7, [1, 5, 6, 7]), (8, [1, 5, 6, 7, 8, 9, 10]), (9, [1, 5, 6, 7, 8, 9, 10, 11, 12]), (10, [5, 7, 8, 9, 10, 11, 12, 13, 14]), (11, [7, 8, 9, 10, 11, 12, 13, 14, 15, 16]), (12, [4])], []⟩ := by kernel_rfl
-- loop.example/g01121/laws.FnWalked
theorem fn12 : TT.fn 12 = some Try.f12 := by kernel_rfl
theorem md12 : (TT.an 12).mode = 1 := by kernel_rfl
theorem fi12 : FI.of Try.f12 (TT.an 12) = ⟨[.tmp 4], 148, [(0, [0, 1]), (1, [0, 1, 30]), (2, [4]), (3, [0, 1, 5]), (4, [0, 1, 5, 6]), (5, [0, 1, 5, 6, 7]), (6, [1, 5, 7, 8]), (7, [5, 7, 8, 9]), (8, [5, 7, 8, 9, 10]), (9, [5, 7, 8, 9, 10, 11]), (10, [5, 7, 8, 9, 10, 11, 47]), (11, [5, 7, 8, 9, 10, 11]), (12, [5, 7, 8, 9, 11, 12, 13]), (13, [5, 7, 8, 9, 11, 12, 57]), (14, [4]), (15, [5, 7, 8, 9, 10, 11]), (16, [5, 7, 8, 10, 14, 15]), (17, [5, 7, 8, 10, 14, 15, 16, 17]), (18, [5, 7, 8, 87]), (19, [4]), (20, [5, 7, 8, 18, 19]), (21, [5, 7, 8, 18, 19, 20, 21]), (22, [5, 18, 19, 20, 21, 22, 23]), (23, [5, 19, 21, 22, 23, 24, 25]), (24, [5, 19, 21, 22, 23, 24, 25, 26, 27]), (25, [4])], [(25, [(21, 20)])]⟩ := by kernel_rfl
-- loop.example/g01121/laws.FnRiffled
theorem fn13 : TT.fn 13 = some Try.f13 := by kernel_rfl
theorem md13 : (TT.an 13).mode = 1 := by kernel_rfl
theorem fi13 : FI.of Try.f13 (TT.an 13) = ⟨[.tmp 4], 116, [(0, [0, 1]), (1, [0, 1, 23]), (2, [4]), (3, [1, 5]), (4, [5, 6]), (5, [5, 6, 7]), (6, [5, 6, 7, 8]), (7, [5, 6, 7, 8, 9]), (8, [5, 6, 7, 8, 9, 10]), (9, [5, 6, 7, 8, 9, 10, 11]), (10, [5, 6, 7, 8, 9, 10, 11, 38]), (11, [5, 6, 7, 8, 9, 10, 11]), (12, [5, 6, 7, 8, 9, 10, 11, 12, 13]), (13, [5, 6, 7, 8, 9, 10, 11, 13, 14, 15]), (14, [5, 6, 7, 8, 9, 10, 11, 14, 63]), (15, [4]), (16, [5, 6, 7, 8, 9, 10, 11, 14]), (17, [5, 6, 7, 8, 9, 10, 11, 16]), (18, [5, 6, 7, 8, 9, 10, 11, 16, 74]), (19, [5, 6, 7, 8, 9, 10, 11, 16]), (20, [5, 6, 7, 8, 9, 10, 11]), (21, [5, 6, 9, 10, 17, 18]), (22, [9, 10, 17, 18, 19, 20]), (23, [4])], [(17, [(1000000, 0), (1000001, 6), (0, 3)]), (23, [(10, 13)])]⟩ := by kernel_rfl
-- loop.example/g01121/laws.szFractionS
theorem fn14 : TT.fn 14 = some Try.f14 := by kernel_rfl
theorem md14 : (TT.an 14).mode = 1 := by kernel_rfl
theorem fi14 : FI.of Try.f14 (TT.an 14) = ⟨[.tmp 4], 12, [(0, [0, 1]), (1, [1]), (2, [1, 10]), (3, [4]), (4, [4])], []⟩ := by kernel_rfl
-- loop.example/g01121/spec.IsSource
theorem fn15 : TT.fn 15 = some Try.f15 := by kernel_rfl
theorem md15 : (TT.an 15).mode = 1 := by kernel_rfl
theorem fi15 : FI.of Try.f15 (TT.an 15) = ⟨[.tmp 2], 6, [(0, [0]), (1, [2])], []⟩ := by kernel_rfl
-- loop.example/g01121/laws.toFractionS
theorem fn16 : TT.fn 16 = some Try.f16 := by kernel_rfl
theorem md16 : (TT.an 16).mode = 1 := by kernel_rfl
theorem fi16 : FI.of Try.f16 (TT.an 16) = ⟨[.tmp 2], 23, [(0, [0]), (1, [0, 3]), (2, [0, 3, 4]), (3, [0, 3, 4, 11]), (4, [0, 3, 4]), (5, [0, 3, 4]), (6, [2])], []⟩ := by kernel_rfl
-- loop.example/g01121/impl.IsSource
theorem fn17 : TT.fn 17 = some Try.f17 := by kernel_rfl
theorem md17 : (TT.an 17).mode = 1 := by kernel_rfl
theorem fi17 : FI.of Try.f17 (TT.an 17) = ⟨[.tmp 2], 11, [(0, [0]), (1, [4]), (2, [2])], []⟩ := by kernel_rfl
-- loop.example/g01121/laws.eqFractionS
theorem fn18 : TT.fn 18 = some Try.f18 := by kernel_rfl
theorem md18 : (TT.an 18).mode = 1 := by kernel_rfl
theorem fi18 : FI.of Try.f18 (TT.an 18) = ⟨[.tmp 4], 27, [(0, [0, 1]), (1, [0, 1, 10]), (2, [4]), (3, [0, 1, 5]), (4, [0, 1, 5, 14]), (5, [0, 1, 5]), (6, [0, 1, 5, 26]), (7, [4]), (8, [4])], []⟩ := by kernel_rfl
-- loop.example/g01121/laws.szWalk
theorem fn19 : TT.fn 19 = some Try.f19 := by kernel_rfl
theorem md19 : (TT.an 19).mode = 1 := by kernel_rfl
theorem fi19 : FI.of Try.f19 (TT.an 19) = ⟨[.tmp 4], 12, [(0, [1, 2]), (1, [1]), (2, [1, 10]), (3, [4]), (4, [4])], []⟩ := by kernel_rfl
-- loop.example/g01121/spec.ValidWalk
theorem fn20 : TT.fn 20 = some Try.f20 := by kernel_rfl
theorem md20 : (TT.an 20).mode = 1 := by kernel_rfl
theorem fi20 : FI.of Try.f20 (TT.an 20) = ⟨[.tmp 2], 4, [(0, [1]), (1, [2])], []⟩ := by kernel_rfl
-- loop.example/g01121/laws.toWalk
theorem fn21 : TT.fn 21 = some Try.f21 := by kernel_rfl
theorem md21 : (TT.an 21).mode = 1 := by kernel_rfl
theorem fi21 : FI.of Try.f21 (TT.an 21) = ⟨[.cell 2 36], 9, [(0, [1, 2]), (1, [1, 2, 3]), (2, [2, 3]), (3, [2])], []⟩ := by kernel_rfl
-- loop.example/g01121/impl.ValidWalk
theorem fn22 : TT.fn 22 = some Try.f22 := by kernel_rfl
theorem md22 : (TT.an 22).mode = 1 := by kernel_rfl
theorem fi22 : FI.of Try.f22 (TT.an 22) = ⟨[.tmp 2], 14, [(0, [1]), (1, [2])], []⟩ := by kernel_rfl
-- loop.example/g01121/laws.eqWalk
theorem fn23 : TT.fn 23 = some Try.f23 := by kernel_rfl
theorem md23 : (TT.an 23).mode = 1 := by kernel_rfl
theorem fi23 : FI.of Try.f23 (TT.an 23) = ⟨[.tmp 4], 11, [(0, [2, 3]), (1, [10]), (2, [4]), (3, [4])], []⟩ := by kernel_rfl
-- loop.example/g01121/spec.GreatestOf
theorem fn24 : TT.fn 24 = some Try.f24 := by kernel_rfl
theorem md24 : (TT.an 24).mode = 1 := by kernel_rfl
theorem fi24 : FI.of Try.f24 (TT.an 24) = ⟨[.cell 2 41, .tmp 3], 31, [(0, [0, 2]), (1, [0, 2, 8]), (2, [2, 3]), (3, [0, 2, 4]), (4, [0, 2, 4, 5]), (5, [0, 2, 4, 5, 16]), (6, [0, 2, 4, 5]), (7, [0, 2, 4, 5, 25]), (8, [0, 2, 4, 5]), (9, [2, 3])], []⟩ := by kernel_rfl
-- loop.example/g01121/impl.GreatestOf
theorem fn25 : TT.fn 25 = some Try.f25 := by kernel_rfl
theorem md25 : (TT.an 25).mode = 1 := by kernel_rfl
theorem fi25 : FI.of Try.f25 (TT.an 25) = ⟨[.cell 2 41, .tmp 3], 10, [(0, [0, 2]), (1, [0, 2, 6]), (2, [2, 3]), (3, [2, 3])], []⟩ := by kernel_rfl
-- loop.example/g01121/laws.eqFraction
theorem fn26 : TT.fn 26 = some Try.f26 := by kernel_rfl
theorem md26 : (TT.an 26).mode = 1 := by kernel_rfl
theorem fi26 : FI.of Try.f26 (TT.an 26) = ⟨[.tmp 4], 15, [(0, [2, 3]), (1, [2, 3, 9]), (2, [4]), (3, [14]), (4, [4]), (5, [4])], []⟩ := by kernel_rfl
-- loop.example/g01121/spec.DistanceOf
theorem fn27 : TT.fn 27 = some Try.f27 := by kernel_rfl
theorem md27 : (TT.an 27).mode = 1 := by kernel_rfl
theorem fi27 : FI.of Try.f27 (TT.an 27) = ⟨[.cell 4 41, .tmp 5], 30, [(0, [0, 1, 4]), (1, [0, 1, 4, 20]), (2, [4, 5]), (3, [4, 5])], []⟩ := by kernel_rfl
-- loop.example/g01121/impl.DistanceOf
theorem fn28 : TT.fn 28 = some Try.f28 := by kernel_rfl
theorem md28 : (TT.an 28).mode = 1 := by kernel_rfl
theorem fi28 : FI.of Try.f28 (TT.an 28) = ⟨[.cell 4 41, .tmp 5], 30, [(0, [0, 1, 4]), (1, [0, 1, 4, 20]), (2, [4, 5]), (3, [4, 5])], []⟩ := by kernel_rfl
-- loop.example/g01121/spec.CollisionOf
theorem fn29 : TT.fn 29 = some Try.f29 := by kernel_rfl
theorem md29 : (TT.an 29).mode = 1 := by kernel_rfl
theorem fi29 : FI.of Try.f29 (TT.an 29) = ⟨[.cell 2 41, .tmp 3], 36, [(0, [0, 2]), (1, [0, 2, 8]), (2, [2, 3]), (3, [0, 2, 4]), (4, [0, 2, 4, 5]), (5, [0, 2, 4, 5, 14]), (6, [0, 2, 4, 5]), (7, [0, 2, 4, 5]), (8, [2, 3])], [(7, [(9, 5)])]⟩ := by kernel_rfl
-- loop.example/g01121/impl.CollisionOf
theorem fn30 : TT.fn 30 = some Try.f30 := by kernel_rfl
theorem md30 : (TT.an 30).mode = 1 := by kernel_rfl
theorem fi30 : FI.of Try.f30 (TT.an 30) = ⟨[.cell 2 41, .tmp 3], 29, [(0, [0, 2]), (1, [0, 2, 9]), (2, [2, 3]), (3, [0, 2, 4]), (4, [2, 4, 13, 14, 15]), (5, [2, 4, 13, 14, 15, 16]), (6, [2, 4, 6, 13, 14, 15]), (7, [2, 4, 13, 14, 15]), (8, [2, 4, 13, 14, 15]), (9, [2, 3])], [(7, [(0, 3)])]⟩ := by kernel_rfl
-- loop.example/g01121/spec.ContractionOf
theorem fn31 : TT.fn 31 = some Try.f31 := by kernel_rfl
theorem md31 : (TT.an 31).mode = 1 := by kernel_rfl
theorem fi31 : FI.of Try.f31 (TT.an 31) = ⟨[.cell 2 41, .tmp 3], 47, [(0, [1, 2]), (1, [1, 2, 9]), (2, [2, 3]), (3, [1, 2, 4]), (4, [1, 2, 4, 5]), (5, [1, 2, 4, 5, 17]), (6, [1, 2, 4, 5]), (7, [1, 2, 4, 5, 6]), (8, [1, 2, 4, 5, 6, 22]), (9, [1, 2, 4, 5, 6]), (10, [1, 2, 4, 5, 6, 7]), (11, [1, 2, 4, 5, 6, 7, 41]), (12, [1, 2, 4, 5, 6]), (13, [2, 3])], [(10, [(1000000, 0), (1000001, 14), (7, 5), (10, 5)])]⟩ := by kernel_rfl
-- loop.example/g01121/impl.ContractionOf
theorem fn32 : TT.fn 32 = some Try.f32 := by kernel_rfl
theorem md32 : (TT.an 32).mode = 1 := by kernel_rfl
theorem fi32 : FI.of Try.f32 (TT.an 32) = ⟨[.cell 2 41, .tmp 3], 14, [(0, [1, 2]), (1, [1, 2, 6]), (2, [2, 3]), (3, [2, 3])], []⟩ := by kernel_rfl
-- loop.example/g01121/spec.RiffleChance
theorem fn33 : TT.fn 33 = some Try.f33 := by kernel_rfl
theorem md33 : (TT.an 33).mode = 1 := by kernel_rfl
theorem fi33 : FI.of Try.f33 (TT.an 33) = ⟨[.cell 4 41, .tmp 5], 34, [(0, [0, 1, 4]), (1, [0, 1, 4, 14]), (2, [4, 5]), (3, [0, 1, 4, 6]), (4, [0, 1, 4, 6, 21]), (5, [4, 5]), (6, [4, 5])], []⟩ := by kernel_rfl
-- loop.example/g01121/laws.toInt64S
theorem fn34 : TT.fn 34 = some Try.f34 := by kernel_rfl
theorem md34 : (TT.an 34).mode = 1 := by kernel_rfl
theorem fi34 : FI.of Try.f34 (TT.an 34) = ⟨[.tmp 2], 22, [(0, [0]), (1, [0, 3]), (2, [0, 3, 4]), (3, [0, 3, 4, 11]), (4, [0, 3, 4]), (5, [0, 3, 4]), (6, [2])], []⟩ := by kernel_rfl
-- loop.example/g01121/impl.RiffleChance
theorem fn35 : TT.fn 35 = some Try.f35 := by kernel_rfl
theorem md35 : (TT.an 35).mode = 1 := by kernel_rfl
theorem fi35 : FI.of Try.f35 (TT.an 35) = ⟨[.cell 4 41, .tmp 5], 24, [(0, [0, 1, 4]), (1, [0, 1, 4, 13]), (2, [4, 5]), (3, [4, 5])], []⟩ := by kernel_rfl
-- loop.example/g01121/laws.eqInt64S
theorem fn36 : TT.fn 36 = some Try.f36 := by kernel_rfl
theorem md36 : (TT.an 36).mode = 1 := by kernel_rfl
theorem fi36 : FI.of Try.f36 (TT.an 36) = ⟨[.tmp 4], 26, [(0, [0, 1]), (1, [0, 1, 10]), (2, [4]), (3, [0, 1, 5]), (4, [0, 1, 5, 14]), (5, [0, 1, 5]), (6, [0, 1, 5, 25]), (7, [4]), (8, [4])], []⟩ := by kernel_rfl
-- loop.example/g01121/spec.RiffleDistance
theorem fn37 : TT.fn 37 = some Try.f37 := by kernel_rfl
theorem md37 : (TT.an 37).mode = 1 := by kernel_rfl
theorem fi37 : FI.of Try.f37 (TT.an 37) = ⟨[.cell 4 41, .tmp 5], 81, [(0, [0, 1, 4]), (1, [0, 1, 4, 23]), (2, [4, 5]), (3, [0, 1, 4, 6]), (4, [0, 1, 4, 6, 7]), (5, [0, 1, 4, 6, 7, 8]), (6, [0, 1, 4, 6, 7, 8, 9]), (7, [0, 1, 4, 6, 7, 8, 9, 34]), (8, [0, 1, 4, 6, 7, 8, 9]), (9, [0, 1, 4, 6, 7, 8, 9, 10, 11]), (10, [0, 1, 4, 6, 7, 8, 9, 10, 11, 49]), (11, [0, 1, 4, 6, 7, 8, 9, 10, 11]), (12, [0, 1, 4, 6, 7, 8, 9, 11, 12, 13]), (13, [0, 1, 4, 6, 7, 8, 9, 11, 13, 14, 15]), (14, [0, 1, 4, 6, 7, 8, 9, 14, 77]), (15, [4, 5]), (16, [0, 1, 4, 6, 7, 8, 9]), (17, [4, 5])], [(9, [(1000000, 0), (1000001, 11), (1000001, 12), (1000001, 8), (1000001, 9), (1000002, 8), (1000002, 9), (4, 3)]), (12, [(1000000, 0), (1000001, 11), (1000001, 12), (1000001, 8), (1000001, 9), (1000002, 8), (1000002, 9), (0, 5)])]⟩ := by kernel_rfl
-- loop.example/g01121/impl.RiffleDistance
theorem fn38 : TT.fn 38 = some Try.f38 := by kernel_rfl
theorem md38 : (TT.an 38).mode = 1 := by kernel_rfl
theorem fi38 : FI.of Try.f38 (TT.an 38) = ⟨[.cell 4 41, .tmp 5], 52, [(0, [0, 1, 4]), (1, [0, 1, 4, 17]), (2, [4, 5]), (3, [0, 1, 4, 6, 7]), (4, [0, 1, 4, 6, 7, 24, 25, 26]), (5, [0, 1, 4, 6, 7, 24, 25, 26, 27]), (6, [0, 1, 4, 6, 7, 8, 9, 24, 25, 26]), (7, [0, 1, 4, 6, 7, 8, 9, 24, 25, 26, 32]), (8, [0, 1, 4, 6, 7, 24, 25, 26]), (9, [0, 1, 4, 6, 7, 24, 25, 26]), (10, [4, 5])], [(8, [(0, 4), (5, 4), (0, 6), (0, 7), (0, 9), (0, 10)]), (10, [(0, 1)])]⟩ := by kernel_rfl
-- loop.example/g01121/laws.b10Long
theorem fn39 : TT.fn 39 = some Try.f39 := by kernel_rfl
theorem md39 : (TT.an 39).mode = 1 := by kernel_rfl
theorem fi39 : FI.of Try.f39 (TT.an 39) = ⟨[.tmp 4], 13, [(0, [0, 1]), (1, [4])], []⟩ := by kernel_rfl
-- loop.example/g01121/spec.B10Source
theorem fn40 : TT.fn 40 = some Try.f40 := by kernel_rfl
theorem md40 : (TT.an 40).mode = 1 := by kernel_rfl
theorem fi40 : FI.of Try.f40 (TT.an 40) = ⟨[.tmp 2], 14, [(0, [0]), (1, [3]), (2, [3, 4]), (3, [2])], []⟩ := by kernel_rfl
-- loop.example/g01121/laws.b10At
theorem fn41 : TT.fn 41 = some Try.f41 := by kernel_rfl
theorem md41 : (TT.an 41).mode = 1 := by kernel_rfl
theorem fi41 : FI.of Try.f41 (TT.an 41) = ⟨[.tmp 6], 25, [(0, [0, 1, 2]), (1, [0, 1, 2, 8]), (2, [6]), (3, [0, 1, 2, 12]), (4, [6]), (5, [6])], []⟩ := by kernel_rfl
-- loop.example/g01121/impl.BestRows
theorem fn42 : TT.fn 42 = some Try.f42 := by kernel_rfl
theorem md42 : (TT.an 42).mode = 1 := by kernel_rfl
theorem fi42 : FI.of Try.f42 (TT.an 42) = ⟨[.tmp 4, .cell 5 41, .tmp 6], 31, [(0, [0, 1, 5]), (1, [0, 1, 5, 7, 8, 9]), (2, [5, 7, 8, 19]), (3, [4, 5, 6]), (4, [5, 7, 10, 11]), (5, [5, 7, 10, 27]), (6, [4, 5, 6]), (7, [4, 5, 6])], []⟩ := by kernel_rfl
-- loop.example/g01121/impl.ExtractDistance
theorem fn43 : TT.fn 43 = some Try.f43 := by kernel_rfl
theorem md43 : (TT.an 43).mode = 1 := by kernel_rfl
theorem fi43 : FI.of Try.f43 (TT.an 43) = ⟨[.cell 4 41, .tmp 5], 18, [(0, [0, 1, 4]), (1, [0, 1, 4, 9]), (2, [4, 5]), (3, [4, 5])], []⟩ := by kernel_rfl
-- loop.example/g01121/spec.B10Rows
theorem fn44 : TT.fn 44 = some Try.f44 := by kernel_rfl
theorem md44 : (TT.an 44).mode = 1 := by kernel_rfl
theorem fi44 : FI.of Try.f44 (TT.an 44) = ⟨[.tmp 6], 27, [(0, [0, 1, 2]), (1, [1, 2, 7]), (2, [1, 2, 7, 8]), (3, [1, 2, 7, 8, 9]), (4, [1, 2, 7, 8, 9, 15]), (5, [1, 2, 7, 8, 9]), (6, [1, 2, 7, 8, 9]), (7, [6])], []⟩ := by kernel_rfl
-- loop.example/g01121/impl.AverageDistance
theorem fn45 : TT.fn 45 = some Try.f45 := by kernel_rfl
theorem md45 : (TT.an 45).mode = 1 := by kernel_rfl
theorem fi45 : FI.of Try.f45 (TT.an 45) = ⟨[.cell 4 41, .tmp 5], 25, [(0, [0, 1, 4]), (1, [0, 1, 4, 6, 7, 8]), (2, [4, 6, 7, 16]), (3, [4, 5]), (4, [4, 5])], [(4, [(0, 2)])]⟩ := by kernel_rfl
-- loop.example/g01121/laws.b10Less
theorem fn46 : TT.fn 46 = some Try.f46 := by kernel_rfl
theorem md46 : (TT.an 46).mode = 1 := by kernel_rfl
theorem fi46 : FI.of Try.f46 (TT.an 46) = ⟨[.tmp 4], 18, [(0, [2, 3]), (1, [5, 6]), (2, [4])], []⟩ := by kernel_rfl
-- loop.example/g01121/spec.B10Walk
theorem fn47 : TT.fn 47 = some Try.f47 := by kernel_rfl
theorem md47 : (TT.an 47).mode = 1 := by kernel_rfl
theorem fi47 : FI.of Try.f47 (TT.an 47) = ⟨[.cell 2 36], 27, [(0, [0, 2]), (1, [2, 3]), (2, [2, 3, 4]), (3, [2, 3, 4, 5]), (4, [2, 3, 4, 5, 6]), (5, [2, 3, 4, 5, 6, 15]), (6, [2, 3, 4, 5, 6]), (7, [2, 3, 4, 5, 6]), (8, [2])], [(7, [(1, 4), (1, 5)])]⟩ := by kernel_rfl
-- loop.example/g01121/spec.B10Chances
theorem fn48 : TT.fn 48 = some Try.f48 := by kernel_rfl
theorem md48 : (TT.an 48).mode = 1 := by kernel_rfl
theorem fi48 : FI.of Try.f48 (TT.an 48) = ⟨[.tmp 4], 11, [(0, [0, 1]), (1, [1, 5]), (2, [4])], []⟩ := by kernel_rfl
-- loop.example/g01121/impl.StepWalk
theorem fn49 : TT.fn 49 = some Try.f49 := by kernel_rfl
theorem md49 : (TT.an 49).mode = 1 := by kernel_rfl
theorem fi49 : FI.of Try.f49 (TT.an 49) = ⟨[.tmp 4, .tmp 5], 11, [(0, [1, 2]), (1, [4, 5])], []⟩ := by kernel_rfl
-- loop.example/g01121/impl.RunWalk
theorem fn50 : TT.fn 50 = some Try.f50 := by kernel_rfl
theorem md50 : (TT.an 50).mode = 1 := by kernel_rfl
theorem fi50 : FI.of Try.f50 (TT.an 50) = ⟨[.tmp 6, .tmp 7], 46, [(0, [1, 2, 3]), (1, [1, 2, 3, 30]), (2, [6, 7]), (3, [2, 8, 9]), (4, [8, 9, 35, 36]), (5, [8, 9, 35, 36, 37]), (6, [8, 9, 35, 36]), (7, [8, 9, 35, 36]), (8, [6, 7])], []⟩ := by kernel_rfl
-- loop.example/g01121/spec.SumFractions
theorem fn51 : TT.fn 51 = some Try.f51 := by kernel_rfl
theorem md51 : (TT.an 51).mode = 1 := by kernel_rfl
theorem fi51 : FI.of Try.f51 (TT.an 51) = ⟨[.cell 2 41, .tmp 3], 17, [(0, [0, 2]), (1, [0, 2, 11]), (2, [2, 3]), (3, [2, 3])], []⟩ := by kernel_rfl
-- loop.example/g01121/laws.b10Equal
theorem fn52 : TT.fn 52 = some Try.f52 := by kernel_rfl
theorem md52 : (TT.an 52).mode = 1 := by kernel_rfl
theorem fi52 : FI.of Try.f52 (TT.an 52) = ⟨[.tmp 4], 26, [(0, [0, 1]), (1, [0, 1, 10]), (2, [4]), (3, [0, 1, 5]), (4, [0, 1, 5, 14]), (5, [0, 1, 5]), (6, [0, 1, 5, 25]), (7, [4]), (8, [4])], []⟩ := by kernel_rfl
-- loop.example/g01121/laws.b10Mul
theorem fn53 : TT.fn 53 = some Try.f53 := by kernel_rfl
theorem md53 : (TT.an 53).mode = 1 := by kernel_rfl
theorem fi53 : FI.of Try.f53 (TT.an 53) = ⟨[.cell 4 41], 14, [(0, [2, 3, 4]), (1, [4, 5]), (2, [4])], []⟩ := by kernel_rfl
-- loop.example/g01121/laws.b10All
theorem fn54 : TT.fn 54 = some Try.f54 := by kernel_rfl
theorem md54 : (TT.an 54).mode = 1 := by kernel_rfl
theorem fi54 : FI.of Try.f54 (TT.an 54) = ⟨[.tmp 2], 14, [(0, [0]), (1, [0, 3]), (2, [0, 3, 4]), (3, [0, 3, 4, 7]), (4, [0, 3, 4]), (5, [0, 3, 4]), (6, [2])], []⟩ := by kernel_rfl
-- loop.example/g01121/spec.OrderAt
theorem fn55 : TT.fn 55 = some Try.f55 := by kernel_rfl
theorem md55 : (TT.an 55).mode = 1 := by kernel_rfl
theorem fi55 : FI.of Try.f55 (TT.an 55) = ⟨[.tmp 4, .tmp 5], 20, [(0, [0, 1]), (1, [0, 1, 16]), (2, [4, 5]), (3, [4, 5])], []⟩ := by kernel_rfl
-- loop.example/g01121/laws.b10Add
theorem fn56 : TT.fn 56 = some Try.f56 := by kernel_rfl
theorem md56 : (TT.an 56).mode = 1 := by kernel_rfl
theorem fi56 : FI.of Try.f56 (TT.an 56) = ⟨[.cell 4 41], 14, [(0, [2, 3, 4]), (1, [4, 5]), (2, [4])], []⟩ := by kernel_rfl
-- loop.example/g01121/spec.l09Bits
theorem fn57 : TT.fn 57 = some Try.f57 := by kernel_rfl
theorem md57 : (TT.an 57).mode = 1 := by kernel_rfl
theorem fi57 : FI.of Try.f57 (TT.an 57) = ⟨[.tmp 2], 19, [(0, [0]), (1, [0, 3]), (2, [0, 3, 5]), (3, [0, 3]), (4, [0, 3, 17]), (5, [2]), (6, [2])], []⟩ := by kernel_rfl
-- loop.example/g01121/laws.toFraction
theorem fn58 : TT.fn 58 = some Try.f58 := by kernel_rfl
theorem md58 : (TT.an 58).mode = 1 := by kernel_rfl
theorem fi58 : FI.of Try.f58 (TT.an 58) = ⟨[.cell 2 41], 11, [(0, [1, 2]), (1, [1, 2, 3]), (2, [1, 2, 3]), (3, [2, 3]), (4, [2])], []⟩ := by kernel_rfl
-- loop.example/g01121/impl.sourceBits
theorem fn59 : TT.fn 59 = some Try.f59 := by kernel_rfl
theorem md59 : (TT.an 59).mode = 1 := by kernel_rfl
theorem fi59 : FI.of Try.f59 (TT.an 59) = ⟨[.tmp 2, .tmp 3], 22, [(0, [0]), (1, [0, 4]), (2, [2, 3])], []⟩ := by kernel_rfl
-- loop.example/g01121/laws.szFractionSS
theorem fn60 : TT.fn 60 = some Try.f60 := by kernel_rfl
theorem md60 : (TT.an 60).mode = 1 := by kernel_rfl
theorem fi60 : FI.of Try.f60 (TT.an 60) = ⟨[.tmp 4], 27, [(0, [0, 1]), (1, [0, 1]), (2, [0, 1, 11]), (3, [4]), (4, [0, 1, 5]), (5, [0, 1, 5, 15]), (6, [0, 1, 5]), (7, [0, 1, 5]), (8, [0, 1, 5, 25]), (9, [4]), (10, [4])], []⟩ := by kernel_rfl
-- loop.example/g01121/spec.l09Walk
theorem fn61 : TT.fn 61 = some Try.f61 := by kernel_rfl
theorem md61 : (TT.an 61).mode = 0 := by kernel_rfl
theorem fi61 : FI.of Try.f61 (TT.an 61) = ⟨[.tmp 2], 42, [(0, [0]), (1, [0, 3]), (2, [0, 3, 15]), (3, [2]), (4, [0, 3, 4]), (5, [0, 3, 4, 18]), (6, [0, 3, 4]), (7, [0, 3, 4, 41]), (8, [2]), (9, [2])], []⟩ := by kernel_rfl
-- loop.example/g01121/laws.toFractionSS
theorem fn62 : TT.fn 62 = some Try.f62 := by kernel_rfl
theorem md62 : (TT.an 62).mode = 1 := by kernel_rfl
theorem fi62 : FI.of Try.f62 (TT.an 62) = ⟨[.tmp 2], 23, [(0, [0]), (1, [0, 3]), (2, [0, 3, 4]), (3, [0, 3, 4, 11]), (4, [0, 3, 4]), (5, [0, 3, 4]), (6, [2])], []⟩ := by kernel_rfl
-- loop.example/g01121/impl.inRange
theorem fn63 : TT.fn 63 = some Try.f63 := by kernel_rfl
theorem md63 : (TT.an 63).mode = 1 := by kernel_rfl
theorem fi63 : FI.of Try.f63 (TT.an 63) = ⟨[.tmp 6], 15, [(0, [0, 1, 2]), (1, [6])], []⟩ := by kernel_rfl
-- loop.example/g01121/impl.length[[]loop.example/g01121/impl.Fraction]
theorem fn64 : TT.fn 64 = some Try.f64 := by kernel_rfl
theorem md64 : (TT.an 64).mode = 1 := by kernel_rfl
theorem fi64 : FI.of Try.f64 (TT.an 64) = ⟨[.tmp 2], 5, [(0, [0]), (1, [2])], []⟩ := by kernel_rfl
-- slices.ContainsFunc[[][]loop.example/g01121/impl.Fraction,[]loop.example/g01121/impl.Fraction]
theorem fn65 : TT.fn 65 = some Try.f65 := by kernel_rfl
theorem md65 : (TT.an 65).mode = 0 := by kernel_rfl
theorem fi65 : FI.of Try.f65 (TT.an 65) = ⟨[.tmp 4], 9, [(0, [0, 1]), (1, [4])], []⟩ := by kernel_rfl
-- loop.example/g01121/impl.ValidWalk$1
theorem fn66 : TT.fn 66 = some Try.f66 := by kernel_rfl
theorem md66 : (TT.an 66).mode = 0 := by kernel_rfl
theorem fi66 : FI.of Try.f66 (TT.an 66) = ⟨[.tmp 3], 15, [(0, [0, 1]), (1, [3])], []⟩ := by kernel_rfl
-- loop.example/g01121/impl.areChances
theorem fn67 : TT.fn 67 = some Try.f67 := by kernel_rfl
theorem md67 : (TT.an 67).mode = 1 := by kernel_rfl
theorem fi67 : FI.of Try.f67 (TT.an 67) = ⟨[.tmp 2], 34, [(0, [0]), (1, [0, 14]), (2, [2]), (3, [0, 3]), (4, [3, 16, 17, 18]), (5, [3, 16, 17, 18, 19]), (6, [3, 5, 16, 17, 18]), (7, [3, 5, 16, 17, 18, 24]), (8, [2]), (9, [3, 16, 17, 18]), (10, [3, 16, 17, 18]), (11, [2])], [(9, [(0, 2)]), (11, [(0, 1)])]⟩ := by kernel_rfl
-- loop.example/g01121/laws.eqFractionSS
theorem fn68 : TT.fn 68 = some Try.f68 := by kernel_rfl
theorem md68 : (TT.an 68).mode = 1 := by kernel_rfl
theorem fi68 : FI.of Try.f68 (TT.an 68) = ⟨[.tmp 4], 27, [(0, [0, 1]), (1, [0, 1, 10]), (2, [4]), (3, [0, 1, 5]), (4, [0, 1, 5, 14]), (5, [0, 1, 5]), (6, [0, 1, 5, 26]), (7, [4]), (8, [4])], []⟩ := by kernel_rfl
-- loop.example/g01121/spec.l01FCmp
theorem fn69 : TT.fn 69 = some Try.f69 := by kernel_rfl
theorem md69 : (TT.an 69).mode = 1 := by kernel_rfl
theorem fi69 : FI.of Try.f69 (TT.an 69) = ⟨[.tmp 4], 48, [(0, [2, 3]), (1, [2, 3, 14]), (2, [17]), (3, [4]), (4, [4]), (5, [2, 3, 5]), (6, [2, 5, 6]), (7, [2, 5, 6, 7]), (8, [2, 5, 6, 7, 38]), (9, [2, 5, 6, 7]), (10, [2, 7, 41]), (11, [2, 7]), (12, [7, 44]), (13, [4]), (14, [4])], [(5, [(1000000, 0), (1000001, 10), (7, 5)]), (6, [(1000000, 0), (1000001, 10), (7, 5)])]⟩ := by kernel_rfl
-- slices.MaxFunc[[]loop.example/g01121/impl.Fraction,loop.example/g01121/impl.Fraction]
theorem fn70 : TT.fn 70 = some Try.f70 := by kernel_rfl
theorem md70 : (TT.an 70).mode = 0 := by kernel_rfl
theorem fi70 : FI.of Try.f70 (TT.an 70) = ⟨[.cell 4 41], 33, [(0, [0, 1, 4]), (1, [0, 1, 4, 9]), (2, [0, 1, 4]), (3, [0, 1, 4, 5]), (4, [0, 1, 4, 5, 6]), (5, [0, 1, 4, 5, 6, 17]), (6, [0, 1, 4, 5, 6]), (7, [0, 1, 4, 5, 6, 27]), (8, [0, 1, 4, 5, 6]), (9, [4])], []⟩ := by kernel_rfl
-- loop.example/g01121/impl.GreatestOf$1
theorem fn71 : TT.fn 71 = some Try.f71 := by kernel_rfl
theorem md71 : (TT.an 71).mode = 1 := by kernel_rfl
theorem fi71 : FI.of Try.f71 (TT.an 71) = ⟨[.tmp 4], 10, [(0, [2, 3]), (1, [4])], [(1, [(2, 1)])]⟩ := by kernel_rfl
-- loop.example/g01121/impl.ratioOf
theorem fn72 : TT.fn 72 = some Try.f72 := by kernel_rfl
theorem md72 : (TT.an 72).mode = 1 := by kernel_rfl
theorem fi72 : FI.of Try.f72 (TT.an 72) = ⟨[.cell 2 92], 14, [(0, [1, 2]), (1, [2])], [(1, [(1, 5), (1, 6), (8, 5), (8, 6), (1, 9)])]⟩ := by kernel_rfl
-- (loop.example/g01121/impl.ratio).compare
theorem fn73 : TT.fn 73 = some Try.f73 := by kernel_rfl
theorem md73 : (TT.an 73).mode = 1 := by kernel_rfl
theorem fi73 : FI.of Try.f73 (TT.an 73) = ⟨[.tmp 4], 15, [(0, [2, 3]), (1, [5]), (2, [5, 9]), (3, [4]), (4, [12]), (5, [4]), (6, [4])], []⟩ := by kernel_rfl
-- loop.example/g01121/spec.l09Is
theorem fn74 : TT.fn 74 = some Try.f74 := by kernel_rfl
theorem md74 : (TT.an 74).mode = 1 := by kernel_rfl
theorem fi74 : FI.of Try.f74 (TT.an 74) = ⟨[.tmp 2], 36, [(0, [0]), (1, [0, 16]), (2, [2]), (3, [0, 3]), (4, [0, 3, 20]), (5, [0, 3]), (6, [0, 3, 28]), (7, [2]), (8, [2])], []⟩ := by kernel_rfl
-- loop.example/g01121/spec.l05Give
theorem fn75 : TT.fn 75 = some Try.f75 := by kernel_rfl
theorem md75 : (TT.an 75).mode = 1 := by kernel_rfl
theorem fi75 : FI.of Try.f75 (TT.an 75) = ⟨[.cell 2 41, .tmp 3], 41, [(0, [1, 2]), (1, [1, 2, 10]), (2, [2, 3]), (3, [2, 4]), (4, [2, 4, 5, 6]), (5, [2, 4, 5, 6, 7, 8]), (6, [2, 4, 5, 7, 32]), (7, [2, 3]), (8, [2, 5, 7, 35]), (9, [2, 5, 7]), (10, [2, 3])], []⟩ := by kernel_rfl
-- loop.example/g01121/spec.l09Distance
theorem fn76 : TT.fn 76 = some Try.f76 := by kernel_rfl
theorem md76 : (TT.an 76).mode = 1 := by kernel_rfl
theorem fi76 : FI.of Try.f76 (TT.an 76) = ⟨[.cell 4 99], 41, [(0, [0, 1, 4]), (1, [0, 1, 4, 5]), (2, [0, 1, 4, 5, 6]), (3, [0, 1, 4, 5, 6, 12]), (4, [0, 1, 4, 5, 6]), (5, [0, 1, 4, 5, 6, 7]), (6, [0, 1, 4, 5, 6, 7, 28]), (7, [0, 1, 4, 5, 6, 7]), (8, [0, 1, 4, 5, 6]), (9, [4])], [(5, [(1000000, 0), (1000001, 13), (3, 5), (9, 5), (3, 10)]), (7, [(2, 1)])]⟩ := by kernel_rfl
-- loop.example/g01121/spec.l09Wides
theorem fn77 : TT.fn 77 = some Try.f77 := by kernel_rfl
theorem md77 : (TT.an 77).mode = 1 := by kernel_rfl
theorem fi77 : FI.of Try.f77 (TT.an 77) = ⟨[.tmp 2], 21, [(0, [0]), (1, [0, 3]), (2, [0, 3, 4]), (3, [0, 3, 4, 9]), (4, [0, 3, 4]), (5, [0, 3, 4]), (6, [2])], []⟩ := by kernel_rfl
-- loop.example/g01121/impl.distance
theorem fn78 : TT.fn 78 = some Try.f78 := by kernel_rfl
theorem md78 : (TT.an 78).mode = 1 := by kernel_rfl
theorem fi78 : FI.of Try.f78 (TT.an 78) = ⟨[.cell 4 92], 29, [(0, [0, 1, 4]), (1, [0, 1, 4, 5]), (2, [1, 4, 5, 9, 10, 11]), (3, [1, 4, 5, 9, 10, 11, 12]), (4, [1, 4, 5, 6, 7, 9, 10, 11]), (5, [1, 4, 5, 9, 10, 11]), (6, [1, 4, 5, 9, 10, 11]), (7, [4])], [(5, [(0, 6), (0, 7)]), (7, [(0, 1)])]⟩ := by kernel_rfl
-- loop.example/g01121/impl.ratios
theorem fn79 : TT.fn 79 = some Try.f79 := by kernel_rfl
theorem md79 : (TT.an 79).mode = 1 := by kernel_rfl
theorem fi79 : FI.of Try.f79 (TT.an 79) = ⟨[.tmp 2], 20, [(0, [0]), (1, [0, 3]), (2, [3, 7, 8, 9]), (3, [3, 7, 8, 9, 10]), (4, [3, 5, 7, 8, 9]), (5, [3, 7, 8, 9]), (6, [3, 7, 8, 9]), (7, [2])], []⟩ := by kernel_rfl
-- (loop.example/g01121/impl.ratio).fraction
theorem fn80 : TT.fn 80 = some Try.f80 := by kernel_rfl
theorem md80 : (TT.an 80).mode = 1 := by kernel_rfl
theorem fi80 : FI.of Try.f80 (TT.an 80) = ⟨[.cell 2 41, .tmp 3], 34, [(0, [1, 2]), (1, [1, 2, 4, 5]), (2, [1, 2, 4, 5, 6, 7]), (3, [1, 2, 4, 6, 25]), (4, [2, 3]), (5, [2, 4, 6, 28]), (6, [2, 4, 6]), (7, [2, 3])], []⟩ := by kernel_rfl
-- loop.example/g01121/spec.l05WideMul
theorem fn81 : TT.fn 81 = some Try.f81 := by kernel_rfl
theorem md81 : (TT.an 81).mode = 1 := by kernel_rfl
theorem fi81 : FI.of Try.f81 (TT.an 81) = ⟨[.cell 4 99], 40, [(0, [2, 3, 4]), (1, [2, 3, 4, 12]), (2, [2, 3, 4, 5, 6]), (3, [2, 3, 4, 5, 21]), (4, [4]), (5, [4])], [(5, [(1, 9), (3, 9), (11, 9), (13, 9), (1, 14), (3, 14)])]⟩ := by kernel_rfl
-- loop.example/g01121/spec.l05WideOf
theorem fn82 : TT.fn 82 = some Try.f82 := by kernel_rfl
theorem md82 : (TT.an 82).mode = 1 := by kernel_rfl
theorem fi82 : FI.of Try.f82 (TT.an 82) = ⟨[.cell 2 99], 18, [(0, [1, 2]), (1, [2])], [(1, [(1, 8), (1, 9), (11, 8), (11, 9), (1, 12), (13, 8), (13, 9), (13, 12)])]⟩ := by kernel_rfl
-- loop.example/g01121/spec.l05Sum
theorem fn83 : TT.fn 83 = some Try.f83 := by kernel_rfl
theorem md83 : (TT.an 83).mode = 1 := by kernel_rfl
theorem fi83 : FI.of Try.f83 (TT.an 83) = ⟨[.cell 2 99], 21, [(0, [0, 2]), (1, [0, 2, 3]), (2, [0, 2, 3, 4]), (3, [0, 2, 3, 4, 10]), (4, [0, 2, 3, 4]), (5, [0, 2, 3, 4]), (6, [2])], []⟩ := by kernel_rfl
-- loop.example/g01121/impl.whole
theorem fn84 : TT.fn 84 = some Try.f84 := by kernel_rfl
theorem md84 : (TT.an 84).mode = 1 := by kernel_rfl
theorem fi84 : FI.of Try.f84 (TT.an 84) = ⟨[.cell 2 92], 6, [(0, [0, 2]), (1, [2])], []⟩ := by kernel_rfl
-- (loop.example/g01121/impl.ratio).plus
theorem fn85 : TT.fn 85 = some Try.f85 := by kernel_rfl
theorem md85 : (TT.an 85).mode = 1 := by kernel_rfl
theorem fi85 : FI.of Try.f85 (TT.an 85) = ⟨[.cell 4 92], 54, [(0, [2, 3, 4]), (1, [2, 3, 4, 5, 6]), (2, [2, 3, 4, 5, 6, 7]), (3, [4, 7]), (4, [3, 4, 5, 6, 7, 33]), (5, [4, 7]), (6, [3, 4, 5, 6, 7, 43]), (7, [4, 7]), (8, [4])], [(1, [(6, 4), (8, 4)]), (2, [(1000000, 0), (1000001, 9), (1, 6)]), (3, [(4, 2), (4, 6)])]⟩ := by kernel_rfl
-- (loop.example/g01121/impl.ratio).times
theorem fn86 : TT.fn 86 = some Try.f86 := by kernel_rfl
theorem md86 : (TT.an 86).mode = 1 := by kernel_rfl
theorem fi86 : FI.of Try.f86 (TT.an 86) = ⟨[.cell 4 92], 22, [(0, [2, 3, 4]), (1, [4])], [(1, [(1, 9), (3, 9), (11, 9), (13, 9), (1, 14), (3, 14)])]⟩ := by kernel_rfl
-- loop.example/g01121/spec.l05Zero
theorem fn87 : TT.fn 87 = some Try.f87 := by kernel_rfl
theorem md87 : (TT.an 87).mode = 1 := by kernel_rfl
theorem fi87 : FI.of Try.f87 (TT.an 87) = ⟨[.cell 0 41], 2, [(0, [0]), (1, [0])], []⟩ := by kernel_rfl
-- loop.example/g01121/spec.l09Cmp
theorem fn88 : TT.fn 88 = some Try.f88 := by kernel_rfl
theorem md88 : (TT.an 88).mode = 1 := by kernel_rfl
theorem fi88 : FI.of Try.f88 (TT.an 88) = ⟨[.tmp 4], 20, [(0, [2, 3]), (1, [5]), (2, [5, 12]), (3, [4]), (4, [17]), (5, [4]), (6, [4])], [(1, [(1000000, 0), (1000001, 7), (0, 2), (3, 2), (0, 4)])]⟩ := by kernel_rfl
-- loop.example/g01121/impl.spread
theorem fn89 : TT.fn 89 = some Try.f89 := by kernel_rfl
theorem md89 : (TT.an 89).mode = 1 := by kernel_rfl
theorem fi89 : FI.of Try.f89 (TT.an 89) = ⟨[.cell 2 92], 36, [(0, [0, 2]), (1, [0, 2, 3]), (2, [0, 2, 3, 10, 11, 12]), (3, [0, 2, 3, 10, 11, 12, 13]), (4, [0, 2, 3, 4, 5, 10, 11, 12]), (5, [0, 2, 3, 5, 10, 11, 12, 19, 20, 21]), (6, [0, 2, 3, 5, 10, 11, 12, 19, 20, 21, 22]), (7, [0, 2, 3, 5, 7, 10, 11, 12, 19, 20, 21]), (8, [0, 2, 3, 5, 8, 10, 11, 12, 19, 20, 21]), (9, [0, 2, 3, 5, 8, 10, 11, 12, 19, 20, 21, 31]), (10, [0, 2, 3, 5, 10, 11, 12, 19, 20, 21]), (11, [0, 2, 3, 5, 10, 11, 12, 19, 20, 21]), (12, [0, 2, 3, 10, 11, 12]), (13, [2])], []⟩ := by kernel_rfl
-- (loop.example/g01121/impl.Walk).rows
theorem fn90 : TT.fn 90 = some Try.f90 := by kernel_rfl
theorem md90 : (TT.an 90).mode = 1 := by kernel_rfl
theorem fi90 : FI.of Try.f90 (TT.an 90) = ⟨[.tmp 2], 21, [(0, [1]), (1, [1, 3]), (2, [3, 8, 9, 10]), (3, [3, 8, 9, 10, 11]), (4, [3, 5, 8, 9, 10]), (5, [3, 8, 9, 10]), (6, [3, 8, 9, 10]), (7, [2])], []⟩ := by kernel_rfl
-- loop.example/g01121/spec.l07Is
theorem fn91 : TT.fn 91 = some Try.f91 := by kernel_rfl
theorem md91 : (TT.an 91).mode = 1 := by kernel_rfl
theorem fi91 : FI.of Try.f91 (TT.an 91) = ⟨[.tmp 2], 36, [(0, [0]), (1, [0, 3]), (2, [0, 3, 4]), (3, [0, 3, 4, 9]), (4, [0, 3, 4]), (5, [0, 3, 4, 29]), (6, [2]), (7, [2])], []⟩ := by kernel_rfl
-- loop.example/g01121/spec.l00In
theorem fn92 : TT.fn 92 = some Try.f92 := by kernel_rfl
theorem md92 : (TT.an 92).mode = 1 := by kernel_rfl
theorem fi92 : FI.of Try.f92 (TT.an 92) = ⟨[.tmp 6], 15, [(0, [0, 1, 2]), (1, [6])], []⟩ := by kernel_rfl
-- loop.example/g01121/spec.l07Great
theorem fn93 : TT.fn 93 = some Try.f93 := by kernel_rfl
theorem md93 : (TT.an 93).mode = 1 := by kernel_rfl
theorem fi93 : FI.of Try.f93 (TT.an 93) = ⟨[.cell 6 41, .tmp 7], 43, [(0, [0, 1, 2, 6]), (1, [0, 2, 6, 8]), (2, [0, 2, 6, 8, 20]), (3, [6, 7]), (4, [0, 2, 6, 9]), (5, [6, 9, 10]), (6, [6, 9, 10, 30]), (7, [6, 9, 10]), (8, [6, 9, 10]), (9, [6, 9, 10, 36]), (10, [6, 7]), (11, [6, 7])], []⟩ := by kernel_rfl
-- loop.example/g01121/spec.l07Rising
theorem fn94 : TT.fn 94 = some Try.f94 := by kernel_rfl
theorem md94 : (TT.an 94).mode = 1 := by kernel_rfl
theorem fi94 : FI.of Try.f94 (TT.an 94) = ⟨[.tmp 2], 42, [(0, [0]), (1, [0, 3]), (2, [0, 3, 4]), (3, [0, 3, 4, 13]), (4, [0, 3, 4]), (5, [0, 3, 4]), (6, [3, 5]), (7, [3, 5, 6]), (8, [3, 5, 6, 26]), (9, [3, 5, 6]), (10, [3, 5, 6, 38]), (11, [3, 5, 6]), (12, [2])], []⟩ := by kernel_rfl
-- loop.example/g01121/spec.l07Chance
theorem fn95 : TT.fn 95 = some Try.f95 := by kernel_rfl
theorem md95 : (TT.an 95).mode = 1 := by kernel_rfl
theorem fi95 : FI.of Try.f95 (TT.an 95) = ⟨[.cell 6 41], 28, [(0, [0, 1, 2, 6]), (1, [0, 2, 6, 7]), (2, [0, 2, 6, 7, 17]), (3, [6]), (4, [6])], []⟩ := by kernel_rfl
-- loop.example/g01121/impl.IsOrder
theorem fn96 : TT.fn 96 = some Try.f96 := by kernel_rfl
theorem md96 : (TT.an 96).mode = 1 := by kernel_rfl
theorem fi96 : FI.of Try.f96 (TT.an 96) = ⟨[.tmp 2], 20, [(0, [0]), (1, [0, 3]), (2, [0, 15]), (3, [2]), (4, [2])], []⟩ := by kernel_rfl
-- loop.example/g01121/impl.riffleChance
theorem fn97 : TT.fn 97 = some Try.f97 := by kernel_rfl
theorem md97 : (TT.an 97).mode = 1 := by kernel_rfl
theorem fi97 : FI.of Try.f97 (TT.an 97) = ⟨[.cell 6 92], 20, [(0, [0, 1, 2, 6]), (1, [6])], []⟩ := by kernel_rfl
-- loop.example/g01121/impl.length[int64]
theorem fn98 : TT.fn 98 = some Try.f98 := by kernel_rfl
theorem md98 : (TT.an 98).mode = 1 := by kernel_rfl
theorem fi98 : FI.of Try.f98 (TT.an 98) = ⟨[.tmp 2], 5, [(0, [0]), (1, [2])], []⟩ := by kernel_rfl
-- loop.example/g01121/impl.rising
theorem fn99 : TT.fn 99 = some Try.f99 := by kernel_rfl
theorem md99 : (TT.an 99).mode = 1 := by kernel_rfl
theorem fi99 : FI.of Try.f99 (TT.an 99) = ⟨[.tmp 2], 23, [(0, [0]), (1, [0, 3]), (2, [0, 3, 7, 8]), (3, [0, 3, 7, 8, 9]), (4, [0, 3, 4, 7, 8]), (5, [0, 3, 7, 8, 18]), (6, [0, 3, 7, 8]), (7, [0, 3, 7, 8]), (8, [2])], []⟩ := by kernel_rfl
-- loop.example/g01121/spec.l01FMake
theorem fn100 : TT.fn 100 = some Try.f100 := by kernel_rfl
theorem md100 : (TT.an 100).mode = 1 := by kernel_rfl
theorem fi100 : FI.of Try.f100 (TT.an 100) = ⟨[.cell 4 41], 25, [(0, [0, 1, 4]), (1, [0, 1, 4, 7]), (2, [0, 1, 4]), (3, [0, 1, 4]), (4, [0, 1, 4, 5]), (5, [4])], []⟩ := by kernel_rfl
-- loop.example/g01121/spec.l07All
theorem fn101 : TT.fn 101 = some Try.f101 := by kernel_rfl
theorem md101 : (TT.an 101).mode = 1 := by kernel_rfl
theorem fi101 : FI.of Try.f101 (TT.an 101) = ⟨[.tmp 2], 14, [(0, [0]), (1, [0, 3]), (2, [0, 3, 4]), (3, [0, 3, 4, 7]), (4, [0, 3, 4]), (5, [0, 3, 4]), (6, [2])], []⟩ := by kernel_rfl
-- loop.example/g01121/spec.l07Euler
theorem fn102 : TT.fn 102 = some Try.f102 := by kernel_rfl
theorem md102 : (TT.an 102).mode = 1 := by kernel_rfl
theorem fi102 : FI.of Try.f102 (TT.an 102) = ⟨[.tmp 2], 52, [(0, [0]), (1, [0, 3]), (2, [0, 3, 4]), (3, [0, 3, 4, 10]), (4, [0, 3, 4]), (5, [0, 3, 4, 5]), (6, [0, 3, 4, 5, 6]), (7, [0, 3, 4, 5, 6, 20]), (8, [0, 3, 4, 5, 6]), (9, [0, 3, 4, 5, 6]), (10, [0, 3, 4, 5, 6]), (11, [0, 3, 4]), (12, [2])], []⟩ := by kernel_rfl
-- loop.example/g01121/spec.l01FAdd
theorem fn103 : TT.fn 103 = some Try.f103 := by kernel_rfl
theorem md103 : (TT.an 103).mode = 1 := by kernel_rfl
theorem fi103 : FI.of Try.f103 (TT.an 103) = ⟨[.cell 4 41, .tmp 5], 123, [(0, [2, 3, 4]), (1, [2, 3, 4, 6]), (2, [2, 3, 4, 6, 7]), (3, [2, 3, 4, 6, 7, 8]), (4, [2, 3, 4, 6, 7, 8, 9]), (5, [2, 3, 4, 6, 7, 8, 9, 10]), (6, [2, 3, 4, 6, 9, 10]), (7, [2, 3, 4, 6, 7, 8, 9, 10, 54]), (8, [2, 3, 4, 6, 9, 10]), (9, [2, 3, 4, 6, 7, 8, 9, 10, 65]), (10, [2, 3, 4, 6, 10]), (11, [2, 3, 4, 6, 9, 10]), (12, [2, 3, 4, 6, 9, 10, 12]), (13, [2, 3, 4, 6, 9, 10, 13]), (14, [2, 3, 4, 6, 9, 13, 14]), (15, [2, 3, 4, 6, 9, 13, 16, 17]), (16, [4, 9, 16, 17, 18, 19]), (17, [4, 9, 16, 18, 113]), (18, [4, 5]), (19, [4, 16, 18, 115]), (20, [4, 16, 18]), (21, [4, 16, 18, 119]), (22, [4, 16, 18]), (23, [4, 5])], [(2, [(1000000, 0), (1000001, 12), (7, 5)]), (3, [(1000000, 0), (1000001, 12), (7, 5)])]⟩ := by kernel_rfl
-- loop.example/g01121/spec.l01FNeg
theorem fn104 : TT.fn 104 = some Try.f104 := by kernel_rfl
theorem md104 : (TT.an 104).mode = 1 := by kernel_rfl
theorem fi104 : FI.of Try.f104 (TT.an 104) = ⟨[.cell 2 41], 9, [(0, [1, 2]), (1, [2])], []⟩ := by kernel_rfl
-- loop.example/g01121/spec.l01FMul
theorem fn105 : TT.fn 105 = some Try.f105 := by kernel_rfl
theorem md105 : (TT.an 105).mode = 1 := by kernel_rfl
theorem fi105 : FI.of Try.f105 (TT.an 105) = ⟨[.cell 4 41, .tmp 5], 67, [(0, [2, 3, 4]), (1, [2, 3, 4, 6]), (2, [4, 6, 7]), (3, [4, 6, 7, 8, 9]), (4, [4, 6, 7, 8, 9, 10, 11]), (5, [4, 6, 7, 8, 10, 53]), (6, [4, 5]), (7, [4, 8, 10, 61]), (8, [4, 8, 10]), (9, [4, 5])], [(3, [(7, 5), (9, 5)])]⟩ := by kernel_rfl
-- loop.example/g01121/impl.quotient
theorem fn106 : TT.fn 106 = some Try.f106 := by kernel_rfl
theorem md106 : (TT.an 106).mode = 1 := by kernel_rfl
theorem fi106 : FI.of Try.f106 (TT.an 106) = ⟨[.cell 4 92], 14, [(0, [0, 1, 4]), (1, [4])], []⟩ := by kernel_rfl
-- loop.example/g01121/impl.factorial
theorem fn107 : TT.fn 107 = some Try.f107 := by kernel_rfl
theorem md107 : (TT.an 107).mode = 1 := by kernel_rfl
theorem fi107 : FI.of Try.f107 (TT.an 107) = ⟨[.tmp 2], 14, [(0, [0]), (1, [0, 3]), (2, [0, 3, 4]), (3, [0, 3, 4, 7]), (4, [0, 3, 4]), (5, [0, 3, 4]), (6, [2])], []⟩ := by kernel_rfl
-- loop.example/g01121/impl.countRising
theorem fn108 : TT.fn 108 = some Try.f108 := by kernel_rfl
theorem md108 : (TT.an 108).mode = 1 := by kernel_rfl
theorem fi108 : FI.of Try.f108 (TT.an 108) = ⟨[.tmp 2], 43, [(0, [0]), (1, [0, 3]), (2, [0, 3]), (3, [0, 3, 4]), (4, [0, 3, 4, 12]), (5, [0, 3, 4]), (6, [0, 3, 4, 5]), (7, [0, 3, 4, 5, 6]), (8, [0, 3, 4, 5, 6, 18]), (9, [0, 3, 4, 5, 6]), (10, [0, 3, 4, 5, 6]), (11, [0, 3, 4]), (12, [2])], []⟩ := by kernel_rfl
-- (loop.example/g01121/impl.ratio).minus
theorem fn109 : TT.fn 109 = some Try.f109 := by kernel_rfl
theorem md109 : (TT.an 109).mode = 1 := by kernel_rfl
theorem fi109 : FI.of Try.f109 (TT.an 109) = ⟨[.cell 4 92], 9, [(0, [2, 3, 4]), (1, [4])], [(1, [(0, 2)])]⟩ := by kernel_rfl
-- (loop.example/g01121/impl.ratio).absolute
theorem fn110 : TT.fn 110 = some Try.f110 := by kernel_rfl
theorem md110 : (TT.an 110).mode = 1 := by kernel_rfl
theorem fi110 : FI.of Try.f110 (TT.an 110) = ⟨[.cell 2 92], 5, [(0, [1, 2]), (1, [1, 2]), (2, [2])], []⟩ := by kernel_rfl
-- (loop.example/g01121/impl.ratio).over
theorem fn111 : TT.fn 111 = some Try.f111 := by kernel_rfl
theorem md111 : (TT.an 111).mode = 1 := by kernel_rfl
theorem fi111 : FI.of Try.f111 (TT.an 111) = ⟨[.cell 4 92], 14, [(0, [2, 3, 4]), (1, [4])], []⟩ := by kernel_rfl
-- loop.example/g01121/spec.l00From
theorem fn112 : TT.fn 112 = some Try.f112 := by kernel_rfl
theorem md112 : (TT.an 112).mode = 0 := by kernel_rfl
theorem fi112 : FI.of Try.f112 (TT.an 112) = ⟨[.tmp 2], 6, [(0, [0]), (1, [2])], []⟩ := by kernel_rfl
-- (*loop.example/g01121/spec.l00Src).pick
theorem fn113 : TT.fn 113 = some Try.f113 := by kernel_rfl
theorem md113 : (TT.an 113).mode = 0 := by kernel_rfl
theorem fi113 : FI.of Try.f113 (TT.an 113) = ⟨[.tmp 4], 20, [(0, [0, 1]), (1, [0, 1, 7]), (2, [4]), (3, [0, 1, 5]), (4, [0, 1, 5, 11]), (5, [1, 5]), (6, [4])], []⟩ := by kernel_rfl
-- loop.example/g01121/spec.l09DrawChances
theorem fn114 : TT.fn 114 = some Try.f114 := by kernel_rfl
theorem md114 : (TT.an 114).mode = 0 := by kernel_rfl
theorem fi114 : FI.of Try.f114 (TT.an 114) = ⟨[.tmp 4], 56, [(0, [0, 1]), (1, [0, 1, 5]), (2, [0, 1, 5, 6]), (3, [0, 1, 5, 6, 7]), (4, [0, 1, 5, 6, 7, 8]), (5, [0, 1, 5, 6, 7, 8, 18]), (6, [0, 1, 5, 6, 7, 8]), (7, [0, 1, 5, 6, 7, 8, 9]), (8, [0, 1, 5, 6, 7, 8, 9, 25]), (9, [0, 1, 5, 6, 7, 8, 9]), (10, [0, 1, 5, 6, 7, 8, 9]), (11, [0, 1, 5, 6, 7, 8]), (12, [0, 1, 5, 6, 34]), (13, [1, 5]), (14, [1, 5, 6]), (15, [1, 5, 6, 10]), (16, [1, 5, 6, 10, 11]), (17, [1, 5, 6, 10, 11, 43]), (18, [1, 5, 6, 10, 11]), (19, [1, 5, 6, 10, 11]), (20, [4])], []⟩ := by kernel_rfl
-- loop.example/g01121/impl.allRows
theorem fn115 : TT.fn 115 = some Try.f115 := by kernel_rfl
theorem md115 : (TT.an 115).mode = 0 := by kernel_rfl
theorem fi115 : FI.of Try.f115 (TT.an 115) = ⟨[.tmp 6], 60, [(0, [0, 1, 2]), (1, [0, 2, 7, 8]), (2, [0, 2, 7, 29]), (3, [6]), (4, [0, 2, 7, 33, 34]), (5, [0, 2, 7, 33, 34, 35]), (6, [0, 2, 7, 9, 33, 34]), (7, [0, 2, 7, 9, 10, 33, 34]), (8, [0, 2, 7, 9, 10, 11, 33, 34]), (9, [0, 2, 7, 9, 10, 11, 33, 34, 41]), (10, [0, 2, 7, 9, 10, 11, 33, 34]), (11, [0, 2, 7, 9, 10, 11, 33, 34]), (12, [0, 2, 7, 33, 34]), (13, [0, 2, 7, 33, 34]), (14, [6])], []⟩ := by kernel_rfl
-- loop.example/g01121/impl.BestRows$1
theorem fn116 : TT.fn 116 = some Try.f116 := by kernel_rfl
theorem md116 : (TT.an 116).mode = 0 := by kernel_rfl
theorem fi116 : FI.of Try.f116 (TT.an 116) = ⟨[], 19, [(0, [0, 2, 3, 5]), (1, [0, 2, 3, 5, 16]), (2, [])], [(2, [(1, 2)])]⟩ := by kernel_rfl
-- loop.example/g01121/impl.unevenness
theorem fn117 : TT.fn 117 = some Try.f117 := by kernel_rfl
theorem md117 : (TT.an 117).mode = 0 := by kernel_rfl
theorem fi117 : FI.of Try.f117 (TT.an 117) = ⟨[.cell 4 92], 18, [(0, [0, 1, 4]), (1, [4, 5]), (2, [4])], []⟩ := by kernel_rfl
-- loop.example/g01121/impl.isExtractor
theorem fn118 : TT.fn 118 = some Try.f118 := by kernel_rfl
theorem md118 : (TT.an 118).mode = 1 := by kernel_rfl
theorem fi118 : FI.of Try.f118 (TT.an 118) = ⟨[.tmp 4], 25, [(0, [0, 1]), (1, [0, 5, 6]), (2, [4])], []⟩ := by kernel_rfl
-- loop.example/g01121/impl.AverageDistance$1
theorem fn119 : TT.fn 119 = some Try.f119 := by kernel_rfl
theorem md119 : (TT.an 119).mode = 0 := by kernel_rfl
theorem fi119 : FI.of Try.f119 (TT.an 119) = ⟨[], 12, [(0, [3]), (1, [])], [(0, [(0, 3)])]⟩ := by kernel_rfl
-- loop.example/g01121/spec.CompareFractions
theorem fn120 : TT.fn 120 = some Try.f120 := by kernel_rfl
theorem md120 : (TT.an 120).mode = 1 := by kernel_rfl
theorem fi120 : FI.of Try.f120 (TT.an 120) = ⟨[.tmp 4, .tmp 5], 17, [(0, [2, 3]), (1, [2, 3, 13]), (2, [4, 5]), (3, [4, 5])], []⟩ := by kernel_rfl
-- loop.example/g01121/impl.walked
theorem fn121 : TT.fn 121 = some Try.f121 := by kernel_rfl
theorem md121 : (TT.an 121).mode = 1 := by kernel_rfl
theorem fi121 : FI.of Try.f121 (TT.an 121) = ⟨[.tmp 4], 46, [(0, [0, 1]), (1, [0, 1, 5]), (2, [0, 5, 14, 15, 16]), (3, [0, 5, 14, 15, 16, 17]), (4, [0, 5, 6, 7, 14, 15, 16]), (5, [0, 5, 6, 7, 14, 15, 16, 22, 23]), (6, [0, 5, 6, 7, 14, 15, 16, 22, 23, 24]), (7, [0, 5, 6, 7, 8, 14, 15, 16, 22, 23]), (8, [0, 5, 6, 7, 14, 15, 16, 22, 23]), (9, [0, 5, 6, 7, 14, 15, 16, 22, 23]), (10, [0, 5, 14, 15, 16]), (11, [4])], [(8, [(5, 14)])]⟩ := by kernel_rfl
-- loop.example/g01121/impl.fractions
theorem fn122 : TT.fn 122 = some Try.f122 := by kernel_rfl
theorem md122 : (TT.an 122).mode = 1 := by kernel_rfl
theorem fi122 : FI.of Try.f122 (TT.an 122) = ⟨[.tmp 2, .tmp 3], 29, [(0, [0]), (1, [0, 4]), (2, [4, 10, 11, 12]), (3, [4, 10, 11, 12, 13]), (4, [4, 6, 10, 11, 12]), (5, [4, 7, 8, 10, 11, 12]), (6, [4, 7, 10, 11, 12, 22]), (7, [2, 3]), (8, [4, 10, 11, 12]), (9, [4, 10, 11, 12]), (10, [2, 3])], []⟩ := by kernel_rfl
-- loop.example/g01121/spec.l01FAll
theorem fn123 : TT.fn 123 = some Try.f123 := by kernel_rfl
theorem md123 : (TT.an 123).mode = 1 := by kernel_rfl
theorem fi123 : FI.of Try.f123 (TT.an 123) = ⟨[.tmp 2], 16, [(0, [0]), (1, [0, 3]), (2, [0, 3, 7]), (3, [0, 3]), (4, [0, 3, 15]), (5, [2]), (6, [2])], []⟩ := by kernel_rfl
-- loop.example/g01121/spec.l01FSum
theorem fn124 : TT.fn 124 = some Try.f124 := by kernel_rfl
theorem md124 : (TT.an 124).mode = 1 := by kernel_rfl
theorem fi124 : FI.of Try.f124 (TT.an 124) = ⟨[.cell 2 41, .tmp 3], 29, [(0, [0, 2]), (1, [0, 2, 4]), (2, [0, 2, 4, 5]), (3, [0, 2, 4, 5, 12]), (4, [0, 2, 4, 5]), (5, [0, 2, 4, 5, 6, 7]), (6, [0, 2, 4, 5, 6, 25]), (7, [2, 3]), (8, [0, 2, 4, 5]), (9, [2, 3])], [(5, [(1000000, 0), (1000001, 10), (1000001, 11), (1000001, 7), (1000001, 8), (1000002, 7), (1000002, 8)])]⟩ := by kernel_rfl
-- loop.example/g01121/spec.MulFractions
theorem fn125 : TT.fn 125 = some Try.f125 := by kernel_rfl
theorem md125 : (TT.an 125).mode = 1 := by kernel_rfl
theorem fi125 : FI.of Try.f125 (TT.an 125) = ⟨[.cell 4 41, .tmp 5], 20, [(0, [2, 3, 4]), (1, [2, 3, 4, 13]), (2, [4, 5]), (3, [4, 5])], []⟩ := by kernel_rfl
-- loop.example/g01121/spec.l07Many
theorem fn126 : TT.fn 126 = some Try.f126 := by kernel_rfl
theorem md126 : (TT.an 126).mode = 1 := by kernel_rfl
theorem fi126 : FI.of Try.f126 (TT.an 126) = ⟨[.tmp 2], 5, [(0, [0]), (1, [2])], []⟩ := by kernel_rfl
-- loop.example/g01121/spec.l07At
theorem fn127 : TT.fn 127 = some Try.f127 := by kernel_rfl
theorem md127 : (TT.an 127).mode = 1 := by kernel_rfl
theorem fi127 : FI.of Try.f127 (TT.an 127) = ⟨[.tmp 4], 46, [(0, [0, 1]), (1, [0, 1, 5]), (2, [0, 1, 5, 6]), (3, [1, 5, 6, 7]), (4, [1, 5, 6, 7, 16]), (5, [1, 5, 6, 7]), (6, [1, 5, 6, 7, 8]), (7, [1, 5, 6, 7, 8]), (8, [1, 5, 6, 7, 8]), (9, [1, 5, 6, 7, 8, 9]), (10, [1, 5, 6, 7]), (11, [4])], []⟩ := by kernel_rfl
-- loop.example/g01121/spec.AddFractions
theorem fn128 : TT.fn 128 = some Try.f128 := by kernel_rfl
theorem md128 : (TT.an 128).mode = 1 := by kernel_rfl
theorem fi128 : FI.of Try.f128 (TT.an 128) = ⟨[.cell 4 41, .tmp 5], 20, [(0, [2, 3, 4]), (1, [2, 3, 4, 13]), (2, [4, 5]), (3, [4, 5])], []⟩ := by kernel_rfl
-- loop.example/g01121/impl.degree
theorem fn129 : TT.fn 129 = some Try.f129 := by kernel_rfl
theorem md129 : (TT.an 129).mode = 1 := by kernel_rfl
theorem fi129 : FI.of Try.f129 (TT.an 129) = ⟨[.tmp 2], 7, [(0, [0]), (1, [2])], []⟩ := by kernel_rfl
-- loop.example/g01121/impl.length[loop.example/g01121/impl.Fraction]
theorem fn130 : TT.fn 130 = some Try.f130 := by kernel_rfl
theorem md130 : (TT.an 130).mode = 1 := by kernel_rfl
theorem fi130 : FI.of Try.f130 (TT.an 130) = ⟨[.tmp 2], 5, [(0, [0]), (1, [2])], []⟩ := by kernel_rfl
-- slices.IndexFunc[[][]loop.example/g01121/impl.Fraction,[]loop.example/g01121/impl.Fraction]
theorem fn131 : TT.fn 131 = some Try.f131 := by kernel_rfl
theorem md131 : (TT.an 131).mode = 0 := by kernel_rfl
theorem fi131 : FI.of Try.f131 (TT.an 131) = ⟨[.tmp 4], 19, [(0, [0, 1]), (1, [0, 1, 7, 8]), (2, [0, 1, 7, 8, 9]), (3, [0, 1, 5, 7, 8]), (4, [0, 1, 5, 7, 8, 16]), (5, [4]), (6, [0, 1, 7, 8]), (7, [4])], []⟩ := by kernel_rfl
-- loop.example/g01121/impl.areFractions
theorem fn132 : TT.fn 132 = some Try.f132 := by kernel_rfl
theorem md132 : (TT.an 132).mode = 1 := by kernel_rfl
theorem fi132 : FI.of Try.f132 (TT.an 132) = ⟨[.tmp 2], 6, [(0, [0]), (1, [2])], []⟩ := by kernel_rfl
-- loop.example/g01121/spec.l01Times
theorem fn133 : TT.fn 133 = some Try.f133 := by kernel_rfl
theorem md133 : (TT.an 133).mode = 1 := by kernel_rfl
theorem fi133 : FI.of Try.f133 (TT.an 133) = ⟨[.cell 4 145], 74, [(0, [0, 1, 4]), (1, [1, 4, 5]), (2, [4, 5, 6]), (3, [4, 5, 6, 7]), (4, [4, 5, 6, 7, 8]), (5, [4, 5, 6, 7, 8, 9]), (6, [4, 5, 6, 7, 8, 9, 10]), (7, [4, 5, 6, 7, 8, 9, 10, 11]), (8, [4])], []⟩ := by kernel_rfl
-- loop.example/g01121/spec.l00Max
theorem fn134 : TT.fn 134 = some Try.f134 := by kernel_rfl
theorem md134 : (TT.an 134).mode = 1 := by kernel_rfl
theorem fi134 : FI.of Try.f134 (TT.an 134) = ⟨[.tmp 4], 10, [(0, [0, 1]), (1, [0, 1, 7]), (2, [4]), (3, [4])], []⟩ := by kernel_rfl
-- loop.example/g01121/spec.l01Less
theorem fn135 : TT.fn 135 = some Try.f135 := by kernel_rfl
theorem md135 : (TT.an 135).mode = 1 := by kernel_rfl
theorem fi135 : FI.of Try.f135 (TT.an 135) = ⟨[.tmp 4], 24, [(0, [2, 3]), (1, [4])], []⟩ := by kernel_rfl
-- loop.example/g01121/impl.naturalOf
theorem fn136 : TT.fn 136 = some Try.f136 := by kernel_rfl
theorem md136 : (TT.an 136).mode = 1 := by kernel_rfl
theorem fi136 : FI.of Try.f136 (TT.an 136) = ⟨[.tmp 2], 10, [(0, [0]), (1, [2])], []⟩ := by kernel_rfl
-- loop.example/g01121/impl.size
theorem fn137 : TT.fn 137 = some Try.f137 := by kernel_rfl
theorem md137 : (TT.an 137).mode = 1 := by kernel_rfl
theorem fi137 : FI.of Try.f137 (TT.an 137) = ⟨[.tmp 2], 7, [(0, [0]), (1, [2])], []⟩ := by kernel_rfl
-- (loop.example/g01121/impl.ratio).isZero
theorem fn138 : TT.fn 138 = some Try.f138 := by kernel_rfl
theorem md138 : (TT.an 138).mode = 1 := by kernel_rfl
theorem fi138 : FI.of Try.f138 (TT.an 138) = ⟨[.tmp 2], 7, [(0, [1]), (1, [2])], []⟩ := by kernel_rfl
-- loop.example/g01121/spec.l05Lowest
theorem fn139 : TT.fn 139 = some Try.f139 := by kernel_rfl
theorem md139 : (TT.an 139).mode = 1 := by kernel_rfl
theorem fi139 : FI.of Try.f139 (TT.an 139) = ⟨[.cell 2 99], 48, [(0, [1, 2]), (1, [1, 2, 12]), (2, [2]), (3, [1, 2, 3]), (4, [1, 2, 3, 4]), (5, [1, 2, 3, 4, 20]), (6, [1, 2, 4, 6]), (7, [1, 2, 3, 6]), (8, [1, 2, 3, 4]), (9, [1, 2, 3, 7]), (10, [1, 2, 7, 9]), (11, [2])], []⟩ := by kernel_rfl
-- loop.example/g01121/spec.l05Small
theorem fn140 : TT.fn 140 = some Try.f140 := by kernel_rfl
theorem md140 : (TT.an 140).mode = 1 := by kernel_rfl
theorem fi140 : FI.of Try.f140 (TT.an 140) = ⟨[.tmp 2, .tmp 3], 30, [(0, [0]), (1, [0, 14]), (2, [2, 3]), (3, [0, 4]), (4, [0, 4, 5]), (5, [0, 4, 5, 19]), (6, [0, 4, 5]), (7, [0, 4, 5]), (8, [2, 3])], []⟩ := by kernel_rfl
-- loop.example/g01121/spec.l05WideAdd
theorem fn141 : TT.fn 141 = some Try.f141 := by kernel_rfl
theorem md141 : (TT.an 141).mode = 1 := by kernel_rfl
theorem fi141 : FI.of Try.f141 (TT.an 141) = ⟨[.cell 4 99], 72, [(0, [2, 3, 4]), (1, [2, 3, 4, 15]), (2, [2, 3, 4, 5, 6]), (3, [2, 3, 4, 5, 24]), (4, [4]), (5, [2, 3, 4, 7]), (6, [2, 3, 4, 7, 8]), (7, [2, 3, 4, 7, 8, 9]), (8, [2, 3, 4, 7, 8, 9, 46]), (9, [4]), (10, [2, 3, 4, 7, 8, 9, 57]), (11, [4]), (12, [4])], [(9, [(1, 4)]), (11, [(1, 4)]), (12, [(1, 4)])]⟩ := by kernel_rfl
-- loop.example/g01121/spec.l09Half
theorem fn142 : TT.fn 142 = some Try.f142 := by kernel_rfl
theorem md142 : (TT.an 142).mode = 1 := by kernel_rfl
theorem fi142 : FI.of Try.f142 (TT.an 142) = ⟨[.cell 2 99], 7, [(0, [1, 2]), (1, [2])], [(1, [(0, 2)])]⟩ := by kernel_rfl
-- (loop.example/g01121/impl.natural).small
theorem fn143 : TT.fn 143 = some Try.f143 := by kernel_rfl
theorem md143 : (TT.an 143).mode = 1 := by kernel_rfl
theorem fi143 : FI.of Try.f143 (TT.an 143) = ⟨[.tmp 2, .tmp 3], 30, [(0, [0]), (1, [0, 9]), (2, [2, 3]), (3, [0, 4]), (4, [4, 10, 11, 12]), (5, [4, 10, 11, 12, 13]), (6, [4, 5, 6, 10, 11, 12]), (7, [4, 10, 11, 12]), (8, [4, 10, 11, 12]), (9, [2, 3])], []⟩ := by kernel_rfl
-- loop.example/g01121/spec.l05BigTimes
theorem fn144 : TT.fn 144 = some Try.f144 := by kernel_rfl
theorem md144 : (TT.an 144).mode = 1 := by kernel_rfl
theorem fi144 : FI.of Try.f144 (TT.an 144) = ⟨[.tmp 4], 81, [(0, [0, 1]), (1, [0, 1, 5]), (2, [0, 1, 5, 6]), (3, [0, 1, 5, 6, 18]), (4, [0, 1, 5, 6]), (5, [0, 1, 5, 6, 7]), (6, [0, 1, 5, 6, 7, 8]), (7, [0, 1, 5, 6, 7, 8, 28]), (8, [0, 1, 5, 6, 7, 8]), (9, [0, 1, 5, 6, 7, 8]), (10, [0, 1, 5, 6, 7, 8, 42]), (11, [0, 1, 5, 6, 7, 8]), (12, [0, 1, 5, 6, 7, 8]), (13, [0, 1, 5, 6, 7, 8]), (14, [5, 74]), (15, [5]), (16, [4])], []⟩ := by kernel_rfl
-- loop.example/g01121/spec.l05BigOf
theorem fn145 : TT.fn 145 = some Try.f145 := by kernel_rfl
theorem md145 : (TT.an 145).mode = 1 := by kernel_rfl
theorem fi145 : FI.of Try.f145 (TT.an 145) = ⟨[.tmp 2], 15, [(0, [0]), (1, [0, 3]), (2, [0, 3, 6]), (3, [0, 3]), (4, [0, 3]), (5, [2])], []⟩ := by kernel_rfl
-- (loop.example/g01121/impl.natural).times
theorem fn146 : TT.fn 146 = some Try.f146 := by kernel_rfl
theorem md146 : (TT.an 146).mode = 1 := by kernel_rfl
theorem fi146 : FI.of Try.f146 (TT.an 146) = ⟨[.tmp 4], 67, [(0, [0, 1]), (1, [0, 1, 5]), (2, [1, 5, 17, 18, 19]), (3, [1, 5, 17, 18, 19, 20]), (4, [1, 5, 6, 7, 17, 18, 19]), (5, [1, 5, 6, 7, 8, 17, 18, 19]), (6, [1, 5, 6, 7, 8, 17, 18, 19, 24, 25, 26]), (7, [1, 5, 6, 7, 8, 17, 18, 19, 24, 25, 26, 27]), (8, [1, 5, 6, 7, 8, 9, 10, 17, 18, 19, 24, 25, 26]), (9, [1, 5, 6, 7, 8, 9, 17, 18, 19, 24, 25, 26]), (10, [1, 5, 6, 7, 8, 17, 18, 19, 24, 25, 26]), (11, [1, 5, 6, 7, 8, 17, 18, 19, 24, 25, 26]), (12, [1, 5, 6, 7, 8, 17, 18, 19, 24, 25, 26]), (13, [1, 5, 17, 18, 19]), (14, [1, 5, 17, 18, 19]), (15, [4])], []⟩ := by kernel_rfl
-- (loop.example/g01121/impl.natural).plus
theorem fn147 : TT.fn 147 = some Try.f147 := by kernel_rfl
theorem md147 : (TT.an 147).mode = 1 := by kernel_rfl
theorem fi147 : FI.of Try.f147 (TT.an 147) = ⟨[.tmp 4], 56, [(0, [0, 1]), (1, [0, 1, 12]), (2, [0, 1]), (3, [0, 1, 5, 6]), (4, [0, 1, 5, 6, 20, 21]), (5, [0, 1, 5, 6, 20, 21, 22]), (6, [0, 1, 5, 6, 7, 20, 21]), (7, [0, 1, 5, 6, 7, 20, 21, 27]), (8, [0, 1, 5, 6, 7, 20, 21]), (9, [0, 1, 5, 6, 7, 20, 21, 38]), (10, [0, 1, 5, 6, 7, 20, 21]), (11, [0, 1, 5, 6, 20, 21]), (12, [0, 1, 5, 6, 20, 21]), (13, [0, 1, 5, 6, 20, 21]), (14, [4])], []⟩ := by kernel_rfl
-- (loop.example/g01121/impl.natural).compare
theorem fn148 : TT.fn 148 = some Try.f148 := by kernel_rfl
theorem md148 : (TT.an 148).mode = 1 := by kernel_rfl
theorem fi148 : FI.of Try.f148 (TT.an 148) = ⟨[.tmp 4], 41, [(0, [0, 1]), (1, [0, 1, 10]), (2, [4]), (3, [0, 1, 5]), (4, [0, 1, 5, 20]), (5, [0, 1, 5]), (6, [0, 1, 5, 31]), (7, [40]), (8, [4]), (9, [4]), (10, [4])], []⟩ := by kernel_rfl
-- (loop.example/g01121/impl.natural).minus
theorem fn149 : TT.fn 149 = some Try.f149 := by kernel_rfl
theorem md149 : (TT.an 149).mode = 0 := by kernel_rfl
theorem fi149 : FI.of Try.f149 (TT.an 149) = ⟨[.tmp 4], 47, [(0, [0, 1]), (1, [0, 1, 5, 6]), (2, [0, 1, 5, 6, 13, 14]), (3, [0, 1, 5, 6, 13, 14, 15]), (4, [0, 1, 5, 6, 7, 13, 14]), (5, [0, 1, 5, 7, 8, 13, 14]), (6, [0, 1, 5, 7, 8, 13, 14, 27]), (7, [0, 1, 5, 7, 8, 13, 14]), (8, [0, 1, 5, 6, 7, 8, 13, 14]), (9, [0, 1, 5, 6, 7, 8, 13, 14, 36]), (10, [0, 1, 5, 7, 8, 13, 14]), (11, [0, 1, 5, 6, 7, 8, 13, 14]), (12, [0, 1, 5, 6, 13, 14]), (13, [0, 1, 5, 6, 13, 14]), (14, [4])], []⟩ := by kernel_rfl
-- (loop.example/g01121/impl.ratio).lowest
theorem fn150 : TT.fn 150 = some Try.f150 := by kernel_rfl
theorem md150 : (TT.an 150).mode = 1 := by kernel_rfl
theorem fi150 : FI.of Try.f150 (TT.an 150) = ⟨[.cell 2 92], 31, [(0, [1, 2]), (1, [1, 2, 7]), (2, [2]), (3, [1, 2, 3]), (4, [1, 2, 3]), (5, [1, 2]), (6, [2])], []⟩ := by kernel_rfl
-- loop.example/g01121/spec.l00Has
theorem fn151 : TT.fn 151 = some Try.f151 := by kernel_rfl
theorem md151 : (TT.an 151).mode = 1 := by kernel_rfl
theorem fi151 : FI.of Try.f151 (TT.an 151) = ⟨[.tmp 4], 18, [(0, [0, 1]), (1, [0, 1, 5]), (2, [0, 1, 5, 9]), (3, [0, 1, 5]), (4, [0, 1, 5, 17]), (5, [4]), (6, [4])], []⟩ := by kernel_rfl
-- loop.example/g01121/spec.l01Choose
theorem fn152 : TT.fn 152 = some Try.f152 := by kernel_rfl
theorem md152 : (TT.an 152).mode = 1 := by kernel_rfl
theorem fi152 : FI.of Try.f152 (TT.an 152) = ⟨[.tmp 4], 42, [(0, [0, 1]), (1, [0, 1, 5]), (2, [0, 1, 5, 6]), (3, [0, 1, 5, 6, 12]), (4, [0, 1, 5, 6]), (5, [0, 1, 5, 6, 7]), (6, [0, 1, 5, 6, 7, 8]), (7, [0, 1, 5, 6, 7, 8, 19]), (8, [0, 1, 5, 6, 7, 8]), (9, [0, 1, 5, 6, 7, 8]), (10, [0, 1, 5, 6]), (11, [4])], []⟩ := by kernel_rfl
-- loop.example/g01121/impl.allIn
theorem fn153 : TT.fn 153 = some Try.f153 := by kernel_rfl
theorem md153 : (TT.an 153).mode = 1 := by kernel_rfl
theorem fi153 : FI.of Try.f153 (TT.an 153) = ⟨[.tmp 6], 11, [(0, [0, 4, 5]), (1, [6])], []⟩ := by kernel_rfl
-- loop.example/g01121/impl.isIncreasing
theorem fn154 : TT.fn 154 = some Try.f154 := by kernel_rfl
theorem md154 : (TT.an 154).mode = 1 := by kernel_rfl
theorem fi154 : FI.of Try.f154 (TT.an 154) = ⟨[.tmp 2], 20, [(0, [0]), (1, [0, 3]), (2, [0, 3, 7]), (3, [0, 3]), (4, [0, 3, 19]), (5, [2]), (6, [2])], []⟩ := by kernel_rfl
-- slices.Sorted[int64]
theorem fn155 : TT.fn 155 = some Try.f155 := by kernel_rfl
theorem md155 : (TT.an 155).mode = 0 := by kernel_rfl
theorem fi155 : FI.of Try.f155 (TT.an 155) = ⟨[.tmp 2], 9, [(0, [0]), (1, [3]), (2, [3]), (3, [2])], []⟩ := by kernel_rfl
-- slices.Values[[]int64,int64]
theorem fn156 : TT.fn 156 = some Try.f156 := by kernel_rfl
theorem md156 : (TT.an 156).mode = 0 := by kernel_rfl
theorem fi156 : FI.of Try.f156 (TT.an 156) = ⟨[.tmp 2], 4, [(0, [1]), (1, [2])], []⟩ := by kernel_rfl
-- loop.example/g01121/impl.choose
theorem fn157 : TT.fn 157 = some Try.f157 := by kernel_rfl
theorem md157 : (TT.an 157).mode = 1 := by kernel_rfl
theorem fi157 : FI.of Try.f157 (TT.an 157) = ⟨[.tmp 4], 46, [(0, [0, 1]), (1, [0, 1, 14]), (2, [4]), (3, [0, 1, 5]), (4, [0, 1, 5, 6]), (5, [0, 1, 5, 6, 21]), (6, [0, 1, 5, 6]), (7, [0, 1, 6, 7, 8]), (8, [0, 1, 6, 9]), (9, [0, 1, 5, 6]), (10, [4])], []⟩ := by kernel_rfl
-- slices.Index[[]int64,int64]
theorem fn158 : TT.fn 158 = some Try.f158 := by kernel_rfl
theorem md158 : (TT.an 158).mode = 0 := by kernel_rfl
theorem fi158 : FI.of Try.f158 (TT.an 158) = ⟨[.tmp 4], 19, [(0, [0, 1]), (1, [0, 1, 7, 8]), (2, [0, 1, 7, 8, 9]), (3, [0, 1, 5, 7, 8]), (4, [0, 1, 5, 7, 8, 16]), (5, [4]), (6, [0, 1, 7, 8]), (7, [4])], []⟩ := by kernel_rfl
-- loop.example/g01121/spec.l01Gcd
theorem fn159 : TT.fn 159 = some Try.f159 := by kernel_rfl
theorem md159 : (TT.an 159).mode = 1 := by kernel_rfl
theorem fi159 : FI.of Try.f159 (TT.an 159) = ⟨[.tmp 4], 14, [(0, [0, 1]), (1, [0, 1, 7]), (2, [1, 5]), (3, [0, 5]), (4, [0, 1]), (5, [4])], []⟩ := by kernel_rfl
-- loop.example/g01121/spec.l01Plus
theorem fn160 : TT.fn 160 = some Try.f160 := by kernel_rfl
theorem md160 : (TT.an 160).mode = 1 := by kernel_rfl
theorem fi160 : FI.of Try.f160 (TT.an 160) = ⟨[.cell 4 145], 27, [(0, [2, 3, 4]), (1, [2, 4, 5]), (2, [4, 5, 21]), (3, [4, 5]), (4, [4])], []⟩ := by kernel_rfl
-- loop.example/g01121/spec.l01Minus
theorem fn161 : TT.fn 161 = some Try.f161 := by kernel_rfl
theorem md161 : (TT.an 161).mode = 1 := by kernel_rfl
theorem fi161 : FI.of Try.f161 (TT.an 161) = ⟨[.cell 4 145], 27, [(0, [2, 3, 4]), (1, [2, 3, 4, 5]), (2, [4, 5, 21]), (3, [4, 5]), (4, [4])], []⟩ := by kernel_rfl
-- loop.example/g01121/spec.l01Split
theorem fn162 : TT.fn 162 = some Try.f162 := by kernel_rfl
theorem md162 : (TT.an 162).mode = 1 := by kernel_rfl
theorem fi162 : FI.of Try.f162 (TT.an 162) = ⟨[.cell 4 145, .tmp 5], 61, [(0, [1, 2, 4]), (1, [1, 2, 4, 6]), (2, [1, 2, 4, 6, 7]), (3, [1, 2, 4, 6, 7, 8]), (4, [1, 2, 4, 6, 7, 8, 12]), (5, [1, 2, 4, 6, 7, 8]), (6, [1, 2, 4, 6, 7, 8, 9]), (7, [1, 2, 4, 6, 7, 8, 9, 23]), (8, [1, 2, 4, 6, 7, 8, 9]), (9, [1, 2, 4, 6, 7, 8]), (10, [1, 2, 4, 6, 7, 8]), (11, [1, 2, 4, 6, 7, 8, 49]), (12, [1, 2, 4, 6, 7, 8]), (13, [1, 2, 4, 6, 7, 8]), (14, [4, 5])], []⟩ := by kernel_rfl
-- loop.example/g01121/spec.l01Small
theorem fn163 : TT.fn 163 = some Try.f163 := by kernel_rfl
theorem md163 : (TT.an 163).mode = 1 := by kernel_rfl
theorem fi163 : FI.of Try.f163 (TT.an 163) = ⟨[.tmp 2, .tmp 3], 15, [(0, [1]), (1, [1, 11]), (2, [2, 3]), (3, [2, 3])], []⟩ := by kernel_rfl
-- (loop.example/g01121/impl.ratio).opposite
theorem fn164 : TT.fn 164 = some Try.f164 := by kernel_rfl
theorem md164 : (TT.an 164).mode = 1 := by kernel_rfl
theorem fi164 : FI.of Try.f164 (TT.an 164) = ⟨[.cell 2 92], 14, [(0, [1, 2]), (1, [1, 2]), (2, [2])], []⟩ := by kernel_rfl
-- (*loop.example/g01121/spec.l00Src).next
theorem fn165 : TT.fn 165 = some Try.f165 := by kernel_rfl
theorem md165 : (TT.an 165).mode = 0 := by kernel_rfl
theorem fi165 : FI.of Try.f165 (TT.an 165) = ⟨[.tmp 2], 62, [(0, [0]), (1, [0, 3]), (2, [0, 3, 13]), (3, [0, 3]), (4, [0, 3]), (5, [0, 3]), (6, [0, 3, 53]), (7, [2]), (8, [2])], []⟩ := by kernel_rfl
-- (*loop.example/g01121/spec.l00Src).one
theorem fn166 : TT.fn 166 = some Try.f166 := by kernel_rfl
theorem md166 : (TT.an 166).mode = 0 := by kernel_rfl
theorem fi166 : FI.of Try.f166 (TT.an 166) = ⟨[.tmp 4], 9, [(0, [0, 1]), (1, [4])], []⟩ := by kernel_rfl
-- loop.example/g01121/impl.extracted
theorem fn167 : TT.fn 167 = some Try.f167 := by kernel_rfl
theorem md167 : (TT.an 167).mode = 0 := by kernel_rfl
theorem fi167 : FI.of Try.f167 (TT.an 167) = ⟨[.tmp 4], 36, [(0, [0, 1]), (1, [0, 1, 5]), (2, [0, 5, 15, 16, 17]), (3, [0, 5, 15, 16, 17, 18]), (4, [0, 5, 6, 7, 15, 16, 17]), (5, [0, 5, 7, 8, 15, 16, 17]), (6, [0, 5, 15, 16, 17]), (7, [0, 5, 15, 16, 17]), (8, [4])], []⟩ := by kernel_rfl
-- slices.Repeat[[]loop.example/g01121/impl.ratio,loop.example/g01121/impl.ratio]
theorem fn168 : TT.fn 168 = some Try.f168 := by kernel_rfl
theorem md168 : (TT.an 168).mode = 0 := by kernel_rfl
theorem fi168 : FI.of Try.f168 (TT.an 168) = ⟨[.tmp 4], 48, [(0, [0, 1]), (1, [0, 1, 10]), (2, [0, 1]), (3, [0, 5, 6]), (4, [0, 6, 26]), (5, [0, 6]), (6, [0, 7]), (7, [7, 8]), (8, [7, 8, 37]), (9, [7, 8]), (10, [4])], []⟩ := by kernel_rfl
-- loop.example/g01121/impl.length[loop.example/g01121/impl.ratio]
theorem fn169 : TT.fn 169 = some Try.f169 := by kernel_rfl
theorem md169 : (TT.an 169).mode = 1 := by kernel_rfl
theorem fi169 : FI.of Try.f169 (TT.an 169) = ⟨[.tmp 2], 5, [(0, [0]), (1, [2])], []⟩ := by kernel_rfl
-- loop.example/g01121/spec.l01FIs
theorem fn170 : TT.fn 170 = some Try.f170 := by kernel_rfl
theorem md170 : (TT.an 170).mode = 1 := by kernel_rfl
theorem fi170 : FI.of Try.f170 (TT.an 170) = ⟨[.tmp 2], 23, [(0, [1]), (1, [2])], [(1, [(16, 14)])]⟩ := by kernel_rfl
-- loop.example/g01121/spec.l07First
theorem fn171 : TT.fn 171 = some Try.f171 := by kernel_rfl
theorem md171 : (TT.an 171).mode = 1 := by kernel_rfl
theorem fi171 : FI.of Try.f171 (TT.an 171) = ⟨[.tmp 2], 16, [(0, [0]), (1, [0, 3]), (2, [0, 3, 4]), (3, [0, 3, 4, 8]), (4, [0, 3, 4]), (5, [0, 3, 4]), (6, [2])], []⟩ := by kernel_rfl
-- math/bits.Len64
theorem fn172 : TT.fn 172 = some Try.f172 := by kernel_rfl
theorem md172 : (TT.an 172).mode = 1 := by kernel_rfl
theorem fi172 : FI.of Try.f172 (TT.an 172) = ⟨[.tmp 2], 25, [(0, [0, 2]), (1, [0, 2, 4]), (2, [0]), (3, [0, 2]), (4, [0, 2, 8]), (5, [0, 2]), (6, [0, 2]), (7, [0, 2, 14]), (8, [0, 2]), (9, [0, 2]), (10, [2])], []⟩ := by kernel_rfl
-- slices.ContainsFunc[[]loop.example/g01121/impl.Fraction,loop.example/g01121/impl.Fraction]
theorem fn173 : TT.fn 173 = some Try.f173 := by kernel_rfl
theorem md173 : (TT.an 173).mode = 0 := by kernel_rfl
theorem fi173 : FI.of Try.f173 (TT.an 173) = ⟨[.tmp 4], 9, [(0, [0, 1]), (1, [4])], []⟩ := by kernel_rfl
-- loop.example/g01121/impl.areFractions$1
theorem fn174 : TT.fn 174 = some Try.f174 := by kernel_rfl
theorem md174 : (TT.an 174).mode = 1 := by kernel_rfl
theorem fi174 : FI.of Try.f174 (TT.an 174) = ⟨[.tmp 2], 6, [(0, [1]), (1, [2])], []⟩ := by kernel_rfl
-- loop.example/g01121/impl.ValidFraction
theorem fn175 : TT.fn 175 = some Try.f175 := by kernel_rfl
theorem md175 : (TT.an 175).mode = 1 := by kernel_rfl
theorem fi175 : FI.of Try.f175 (TT.an 175) = ⟨[.tmp 2], 20, [(0, [1]), (1, [2])], [(1, [(13, 11)])]⟩ := by kernel_rfl
-- (loop.example/g01121/impl.natural).trim
theorem fn176 : TT.fn 176 = some Try.f176 := by kernel_rfl
theorem md176 : (TT.an 176).mode = 1 := by kernel_rfl
theorem fi176 : FI.of Try.f176 (TT.an 176) = ⟨[.tmp 2], 21, [(0, [0]), (1, [0, 3]), (2, [0, 3, 15]), (3, [0, 3]), (4, [2])], []⟩ := by kernel_rfl
-- loop.example/g01121/spec.l05BigSplit
theorem fn177 : TT.fn 177 = some Try.f177 := by kernel_rfl
theorem md177 : (TT.an 177).mode = 1 := by kernel_rfl
theorem fi177 : FI.of Try.f177 (TT.an 177) = ⟨[.tmp 4, .tmp 5], 74, [(0, [0, 1]), (1, [0, 1, 16]), (2, [4, 5]), (3, [0, 1, 6]), (4, [0, 1, 6, 7]), (5, [0, 1, 6, 7, 8]), (6, [0, 1, 6, 7, 8, 9]), (7, [0, 1, 6, 7, 8, 9, 10]), (8, [0, 1, 6, 8, 9, 10, 11]), (9, [0, 1, 6, 8, 9, 10, 11, 39]), (10, [0, 1, 6, 8, 9, 10, 11]), (11, [0, 1, 6, 8, 9, 10, 11]), (12, [0, 1, 6, 8, 9, 10, 11]), (13, [0, 1, 6, 8, 9, 10, 11, 58]), (14, [0, 1, 6, 8, 9, 10, 11]), (15, [0, 1, 6, 8, 9, 10, 11, 65]), (16, [0, 1, 6, 8, 9, 10, 11]), (17, [0, 1, 6, 8, 9, 10, 11]), (18, [4, 5])], []⟩ := by kernel_rfl
-- loop.example/g01121/spec.l05BigCmp
theorem fn178 : TT.fn 178 = some Try.f178 := by kernel_rfl
theorem md178 : (TT.an 178).mode = 1 := by kernel_rfl
theorem fi178 : FI.of Try.f178 (TT.an 178) = ⟨[.tmp 4], 41, [(0, [0, 1]), (1, [0, 1, 10]), (2, [15]), (3, [4]), (4, [4]), (5, [0, 1, 5]), (6, [0, 1, 5, 20]), (7, [0, 1, 5]), (8, [0, 1, 5, 31]), (9, [4]), (10, [0, 1, 5, 40]), (11, [4]), (12, [4])], []⟩ := by kernel_rfl
-- loop.example/g01121/spec.l05BigPlus
theorem fn179 : TT.fn 179 = some Try.f179 := by kernel_rfl
theorem md179 : (TT.an 179).mode = 1 := by kernel_rfl
theorem fi179 : FI.of Try.f179 (TT.an 179) = ⟨[.tmp 4], 53, [(0, [0, 1]), (1, [0, 1, 5]), (2, [0, 1, 5, 6]), (3, [0, 1, 5, 6, 7]), (4, [0, 1, 5, 6, 7, 22]), (5, [0, 1, 5, 6, 7]), (6, [0, 1, 5, 6, 7, 28]), (7, [0, 1, 5, 6, 7]), (8, [0, 1, 5, 6, 7, 38]), (9, [0, 1, 5, 6, 7]), (10, [0, 1, 5, 6, 7]), (11, [0, 1, 5, 6, 7]), (12, [4])], []⟩ := by kernel_rfl
-- loop.example/g01121/spec.l05BigMinus
theorem fn180 : TT.fn 180 = some Try.f180 := by kernel_rfl
theorem md180 : (TT.an 180).mode = 1 := by kernel_rfl
theorem fi180 : FI.of Try.f180 (TT.an 180) = ⟨[.tmp 4], 58, [(0, [0, 1]), (1, [0, 1, 5]), (2, [0, 1, 5, 6]), (3, [0, 1, 5, 6, 7]), (4, [0, 1, 5, 6, 7, 13]), (5, [0, 1, 5, 6, 7]), (6, [0, 1, 5, 7, 8]), (7, [0, 1, 5, 7, 8, 25]), (8, [0, 1, 5, 7, 8]), (9, [0, 1, 5, 6, 7, 8]), (10, [0, 1, 5, 6, 7, 8, 33]), (11, [0, 1, 5, 7, 8]), (12, [0, 1, 5, 6, 7, 8]), (13, [0, 1, 5, 6, 7]), (14, [5, 51]), (15, [5]), (16, [4])], []⟩ := by kernel_rfl
-- (loop.example/g01121/impl.natural).shared
theorem fn181 : TT.fn 181 = some Try.f181 := by kernel_rfl
theorem md181 : (TT.an 181).mode = 1 := by kernel_rfl
theorem fi181 : FI.of Try.f181 (TT.an 181) = ⟨[.tmp 4], 19, [(0, [0, 1]), (1, [0, 1, 9]), (2, [1, 6]), (3, [0, 1]), (4, [4])], []⟩ := by kernel_rfl
-- (loop.example/g01121/impl.natural).over
theorem fn182 : TT.fn 182 = some Try.f182 := by kernel_rfl
theorem md182 : (TT.an 182).mode = 1 := by kernel_rfl
theorem fi182 : FI.of Try.f182 (TT.an 182) = ⟨[.tmp 4, .tmp 5], 132, [(0, [0, 1]), (1, [0, 1, 21]), (2, [4, 5]), (3, [0, 1, 6]), (4, [6, 7, 8]), (5, [6, 7, 8, 9]), (6, [6, 7, 8, 9, 10]), (7, [6, 7, 8, 9, 10, 11]), (8, [6, 7, 8, 9, 10, 11, 48]), (9, [6, 7, 8, 9, 10, 11]), (10, [6, 7, 8, 9, 10, 11, 12]), (11, [6, 7, 8, 9, 10, 11, 13]), (12, [6, 7, 8, 9, 10, 11, 13, 14]), (13, [6, 7, 8, 9, 10, 11, 13, 14, 93]), (14, [6, 7, 8, 9, 10, 11, 13, 15]), (15, [6, 7, 8, 9, 10, 11, 13, 15]), (16, [6, 7, 8, 9, 10, 11, 13]), (17, [6, 7, 8, 9, 10, 11, 13]), (18, [6, 7, 8, 9, 10, 11]), (19, [10, 17]), (20, [4, 5])], []⟩ := by kernel_rfl
-- slices.ContainsFunc[[]int64,int64]
theorem fn183 : TT.fn 183 = some Try.f183 := by kernel_rfl
theorem md183 : (TT.an 183).mode = 0 := by kernel_rfl
theorem fi183 : FI.of Try.f183 (TT.an 183) = ⟨[.tmp 4], 9, [(0, [0, 1]), (1, [4])], []⟩ := by kernel_rfl
-- loop.example/g01121/impl.allIn$1
theorem fn184 : TT.fn 184 = some Try.f184 := by kernel_rfl
theorem md184 : (TT.an 184).mode = 0 := by kernel_rfl
theorem fi184 : FI.of Try.f184 (TT.an 184) = ⟨[.tmp 4], 10, [(0, [0, 1, 2]), (1, [4])], []⟩ := by kernel_rfl
-- slices.Collect[int64]
theorem fn185 : TT.fn 185 = some Try.f185 := by kernel_rfl
theorem md185 : (TT.an 185).mode = 0 := by kernel_rfl
theorem fi185 : FI.of Try.f185 (TT.an 185) = ⟨[.tmp 2], 5, [(0, [0]), (1, [2])], []⟩ := by kernel_rfl
-- slices.Sort[[]int64,int64]
theorem fn186 : TT.fn 186 = some Try.f186 := by kernel_rfl
theorem md186 : (TT.an 186).mode = 0 := by kernel_rfl
theorem fi186 : FI.of Try.f186 (TT.an 186) = ⟨[], 11, [(0, [0, 2]), (1, [])], []⟩ := by kernel_rfl
-- slices.Values[[]int64,int64]$1
theorem fn187 : TT.fn 187 = some Try.f187 := by kernel_rfl
theorem md187 : (TT.an 187).mode = 0 := by kernel_rfl
theorem fi187 : FI.of Try.f187 (TT.an 187) = ⟨[], 16, [(0, [0, 5, 6, 7]), (1, [0, 5, 6, 7, 8]), (2, [0, 4, 5, 6, 7]), (3, [0, 5, 6, 7, 14]), (4, [0, 5, 6, 7])], []⟩ := by kernel_rfl
-- math/bits.Mul64
theorem fn188 : TT.fn 188 = some Try.f188 := by kernel_rfl
theorem md188 : (TT.an 188).mode = 1 := by kernel_rfl
theorem fi188 : FI.of Try.f188 (TT.an 188) = ⟨[.tmp 4, .tmp 5], 51, [(0, [0, 1]), (1, [0, 1, 6]), (2, [0, 1, 6, 7]), (3, [0, 1, 6, 7, 8]), (4, [0, 1, 6, 7, 8, 9]), (5, [0, 1, 6, 7, 8, 9, 10]), (6, [0, 1, 6, 7, 9, 11]), (7, [0, 1, 6, 7, 9, 11, 12]), (8, [0, 1, 6, 7, 9, 12, 13]), (9, [0, 1, 7, 9, 12, 13]), (10, [0, 1, 4]), (11, [4, 5])], []⟩ := by kernel_rfl
-- math/bits.Div64
theorem fn189 : TT.fn 189 = some Try.f189 := by kernel_rfl
theorem md189 : (TT.an 189).mode = 1 := by kernel_rfl
theorem fi189 : FI.of Try.f189 (TT.an 189) = ⟨[.tmp 6, .tmp 7], 135, [(0, [0, 1, 2]), (1, [0, 1, 2, 20]), (2, [0, 1, 2]), (3, [0, 1, 2, 24]), (4, [0, 1, 2]), (5, [0, 1, 2, 27]), (6, [6, 7]), (7, [0, 1, 2, 8]), (8, [0, 1, 2, 8]), (9, [0, 1, 2, 8, 9]), (10, [0, 1, 2, 8, 9, 10]), (11, [1, 2, 8, 9, 10, 11]), (12, [2, 8, 9, 10, 11, 12]), (13, [2, 8, 9, 10, 11, 12, 13]), (14, [2, 8, 9, 10, 11, 13, 14]), (15, [2, 8, 9, 10, 11, 13, 14, 15]), (16, [2, 8, 9, 10, 11, 13, 14, 15, 16]), (17, [2, 8, 9, 10, 11, 13, 14, 15, 16, 78]), (18, [2, 8, 9, 10, 11, 13, 14, 15, 16]), (19, [2, 8, 9, 10, 11, 13, 14, 15, 16]), (20, [2, 8, 9, 10, 11, 13, 14, 15, 16, 85]), (21, [2, 8, 9, 10, 14, 15, 17]), (22, [2, 8, 9, 10, 14, 15, 17, 18]), (23, [2, 8, 9, 10, 14, 15, 16, 17, 18]), (24, [2, 8, 9, 10, 14, 15, 16, 17, 18, 113]), (25, [2, 8, 9, 10, 14, 15, 16, 17, 18]), (26, [2, 8, 9, 10, 14, 15, 16, 17, 18]), (27, [2, 8, 9, 10, 14, 15, 16, 17, 18, 120]), (28, [6, 7])], []⟩ := by kernel_rfl
-- loop.example/g01121/impl.applyRows
theorem fn190 : TT.fn 190 = some Try.f190 := by kernel_rfl
theorem md190 : (TT.an 190).mode = 1 := by kernel_rfl
theorem fi190 : FI.of Try.f190 (TT.an 190) = ⟨[.tmp 4], 25, [(0, [0, 1]), (1, [0, 1, 5]), (2, [1, 5, 8, 9, 10]), (3, [1, 5, 8, 9, 10, 11]), (4, [1, 5, 6, 7, 8, 9, 10]), (5, [1, 5, 8, 9, 10]), (6, [1, 5, 8, 9, 10]), (7, [4])], []⟩ := by kernel_rfl
-- math/bits.Mul
theorem fn191 : TT.fn 191 = some Try.f191 := by kernel_rfl
theorem md191 : (TT.an 191).mode = 1 := by kernel_rfl
theorem fi191 : FI.of Try.f191 (TT.an 191) = ⟨[.tmp 4, .tmp 5], 30, [(0, [0, 1]), (1, [6, 7]), (2, [4, 5]), (3, [8, 9]), (4, [4, 5])], []⟩ := by kernel_rfl
-- slices.IndexFunc[[]loop.example/g01121/impl.Fraction,loop.example/g01121/impl.Fraction]
theorem fn192 : TT.fn 192 = some Try.f192 := by kernel_rfl
theorem md192 : (TT.an 192).mode = 0 := by kernel_rfl
theorem fi192 : FI.of Try.f192 (TT.an 192) = ⟨[.tmp 4], 19, [(0, [0, 1]), (1, [0, 1, 7, 8]), (2, [0, 1, 7, 8, 9]), (3, [0, 1, 5, 7, 8]), (4, [0, 1, 5, 7, 8, 16]), (5, [4]), (6, [0, 1, 7, 8]), (7, [4])], []⟩ := by kernel_rfl
-- loop.example/g01121/impl.divisor
theorem fn193 : TT.fn 193 = some Try.f193 := by kernel_rfl
theorem md193 : (TT.an 193).mode = 1 := by kernel_rfl
theorem fi193 : FI.of Try.f193 (TT.an 193) = ⟨[.tmp 4], 12, [(0, [0, 1]), (1, [0, 1, 6]), (2, [0, 1]), (3, [4])], []⟩ := by kernel_rfl
-- math/bits.LeadingZeros32
theorem fn194 : TT.fn 194 = some Try.f194 := by kernel_rfl
theorem md194 : (TT.an 194).mode = 1 := by kernel_rfl
theorem fi194 : FI.of Try.f194 (TT.an 194) = ⟨[.tmp 2], 6, [(0, [0]), (1, [2])], []⟩ := by kernel_rfl
-- (loop.example/g01121/impl.natural).up
theorem fn195 : TT.fn 195 = some Try.f195 := by kernel_rfl
theorem md195 : (TT.an 195).mode = 2 := by kernel_rfl
theorem fi195 : FI.of Try.f195 (TT.an 195) = ⟨[.tmp 4], 41, [(0, [0, 1]), (1, [0, 1, 5, 6]), (2, [0, 1, 5, 6, 13, 14, 15]), (3, [0, 1, 5, 6, 13, 14, 15, 16]), (4, [0, 1, 5, 6, 7, 8, 13, 14, 15]), (5, [0, 1, 5, 6, 7, 13, 14, 15]), (6, [0, 1, 5, 6, 13, 14, 15]), (7, [0, 1, 5, 6, 13, 14, 15]), (8, [0, 1, 5, 6, 13, 14, 15]), (9, [5]), (10, [4])], []⟩ := by kernel_rfl
-- slices.Clone[loop.example/g01121/impl.natural,uint32]
theorem fn196 : TT.fn 196 = some Try.f196 := by kernel_rfl
theorem md196 : (TT.an 196).mode = 2 := by kernel_rfl
theorem fi196 : FI.of Try.f196 (TT.an 196) = ⟨[.tmp 2], 8, [(0, [0]), (1, [0, 4]), (2, [2]), (3, [2])], []⟩ := by kernel_rfl
-- (loop.example/g01121/impl.natural).down
theorem fn197 : TT.fn 197 = some Try.f197 := by kernel_rfl
theorem md197 : (TT.an 197).mode = 1 := by kernel_rfl
theorem fi197 : FI.of Try.f197 (TT.an 197) = ⟨[.tmp 4, .tmp 5], 43, [(0, [0, 1]), (1, [0, 1, 6, 7]), (2, [0, 1, 6, 7, 8]), (3, [0, 1, 6, 7, 8, 16]), (4, [0, 1, 6, 7, 8]), (5, [0, 1, 6, 7, 8]), (6, [0, 1, 6, 7, 8]), (7, [0, 1, 6, 7, 8]), (8, [4, 5])], []⟩ := by kernel_rfl
-- slices.IndexFunc[[]int64,int64]
theorem fn198 : TT.fn 198 = some Try.f198 := by kernel_rfl
theorem md198 : (TT.an 198).mode = 0 := by kernel_rfl
theorem fi198 : FI.of Try.f198 (TT.an 198) = ⟨[.tmp 4], 19, [(0, [0, 1]), (1, [0, 1, 7, 8]), (2, [0, 1, 7, 8, 9]), (3, [0, 1, 5, 7, 8]), (4, [0, 1, 5, 7, 8, 16]), (5, [4]), (6, [0, 1, 7, 8]), (7, [4])], []⟩ := by kernel_rfl
-- slices.pdqsortOrdered[int64]
theorem fn200 : TT.fn 200 = some Try.f200 := by kernel_rfl
theorem md200 : (TT.an 200).mode = 0 := by kernel_rfl
theorem fi200 : FI.of Try.f200 (TT.an 200) = ⟨[], 134, [(0, [0, 1, 2, 3, 8]), (1, [0, 1, 2, 3, 8, 9]), (2, [0, 1, 2, 3, 8, 9, 10]), (3, [0, 1, 2, 3, 8, 9, 10, 23]), (4, []), (5, [0, 1, 2, 3, 8, 9, 10, 29]), (6, []), (7, [0, 1, 2, 3, 8, 9, 10, 35]), (8, [0, 1, 2, 3, 8, 9, 10]), (9, [0, 1, 2, 3, 8, 9, 10]), (10, [0, 1, 2, 3, 8, 9, 10, 11, 12]), (11, [0, 1, 2, 3, 8, 9, 10, 11, 12, 50]), (12, [0, 1, 2, 3, 8, 9, 10, 11]), (13, [0, 1, 2, 3, 8, 9, 10, 11]), (14, [0, 1, 2, 3, 8, 9, 10, 11, 12]), (15, [0, 1, 2, 3, 8, 9, 10, 11, 68]), (16, [0, 1, 2, 3, 8, 9, 10, 11, 72]), (17, [0, 1, 2, 3, 8, 9, 10, 11, 87]), (18, [0, 2, 3, 8, 9, 13]), (19, [0, 1, 2, 3, 8, 9]), (20, [0, 1, 2, 3, 10, 14, 15]), (21, [0, 1, 2, 3, 9, 10, 14]), (22, [0, 1, 2, 3, 9, 10, 14, 16, 17]), (23, [0, 1, 2, 3, 9, 14, 16, 17, 18]), (24, [0, 1, 2, 3, 9, 14, 16, 17, 18, 113]), (25, [0, 1, 2, 3, 8, 9, 14]), (26, [0, 2, 3, 8, 9, 14]), (27, [0, 1, 2, 3, 8, 9]), (28, [0, 1, 2, 3, 8, 9, 14]), (29, [0, 1, 3, 8, 9, 14]), (30, [0, 1, 2, 3, 8, 9])], []⟩ := by kernel_rfl
-- math/bits.Len
theorem fn201 : TT.fn 201 = some Try.f201 := by kernel_rfl
theorem md201 : (TT.an 201).mode = 1 := by kernel_rfl
theorem fi201 : FI.of Try.f201 (TT.an 201) = ⟨[.tmp 2], 8, [(0, [0]), (1, [2]), (2, [2])], []⟩ := by kernel_rfl
-- math/bits.LeadingZeros64
theorem fn202 : TT.fn 202 = some Try.f202 := by kernel_rfl
theorem md202 : (TT.an 202).mode = 1 := by kernel_rfl
theorem fi202 : FI.of Try.f202 (TT.an 202) = ⟨[.tmp 2], 6, [(0, [0]), (1, [2])], []⟩ := by kernel_rfl
-- loop.example/g01121/impl.parity
theorem fn203 : TT.fn 203 = some Try.f203 := by kernel_rfl
theorem md203 : (TT.an 203).mode = 1 := by kernel_rfl
theorem fi203 : FI.of Try.f203 (TT.an 203) = ⟨[.tmp 2], 7, [(0, [0]), (1, [2])], []⟩ := by kernel_rfl
-- math/bits.Mul32
theorem fn204 : TT.fn 204 = some Try.f204 := by kernel_rfl
theorem md204 : (TT.an 204).mode = 1 := by kernel_rfl
theorem fi204 : FI.of Try.f204 (TT.an 204) = ⟨[.tmp 4, .tmp 5], 17, [(0, [0, 1]), (1, [6]), (2, [4, 5])], []⟩ := by kernel_rfl
-- math/bits.Len32
theorem fn205 : TT.fn 205 = some Try.f205 := by kernel_rfl
theorem md205 : (TT.an 205).mode = 1 := by kernel_rfl
theorem fi205 : FI.of Try.f205 (TT.an 205) = ⟨[.tmp 2], 19, [(0, [0, 2]), (1, [0, 2, 4]), (2, [0]), (3, [0, 2]), (4, [0, 2, 8]), (5, [0, 2]), (6, [0, 2]), (7, [2])], []⟩ := by kernel_rfl
-- slices.insertionSortOrdered[int64]
theorem fn206 : TT.fn 206 = some Try.f206 := by kernel_rfl
theorem md206 : (TT.an 206).mode = 0 := by kernel_rfl
theorem fi206 : FI.of Try.f206 (TT.an 206) = ⟨[], 49, [(0, [0, 1, 2, 6]), (1, [0, 1, 2, 6, 12]), (2, [0, 1, 2, 6]), (3, [0, 1, 2, 6, 7]), (4, [0, 1, 2, 6, 7, 30]), (5, [0, 1, 2, 6, 7]), (6, [0, 1, 2, 6, 7])], []⟩ := by kernel_rfl
-- slices.heapSortOrdered[int64]
theorem fn207 : TT.fn 207 = some Try.f207 := by kernel_rfl
theorem md207 : (TT.an 207).mode = 0 := by kernel_rfl
theorem fi207 : FI.of Try.f207 (TT.an 207) = ⟨[], 56, [(0, [0, 1, 2, 6]), (1, [0, 1, 2, 6, 7]), (2, [0, 6, 7, 8]), (3, [0, 6, 7, 8, 9]), (4, [0, 6, 7, 8, 9, 19]), (5, [0, 6, 7, 8, 9]), (6, [0, 6, 7, 8, 9]), (7, [0, 6, 7, 10]), (8, [0, 6, 7, 10, 30]), (9, [0, 6, 7, 10]), (10, [0, 6, 7, 10]), (11, [0, 6, 7, 10])], []⟩ := by kernel_rfl
-- slices.breakPatternsOrdered[int64]
theorem fn208 : TT.fn 208 = some Try.f208 := by kernel_rfl
theorem md208 : (TT.an 208).mode = 0 := by kernel_rfl
theorem fi208 : FI.of Try.f208 (TT.an 208) = ⟨[], 65, [(0, [0, 1, 6]), (1, [0, 1, 6, 15]), (2, [0, 1, 6, 7]), (3, [0, 1, 6, 7, 8]), (4, [0, 1, 6, 7, 8, 9]), (5, [0, 1, 6, 7, 8, 9, 33]), (6, [0, 1, 6, 7, 8, 9]), (7, [0, 1, 6, 7, 8, 9, 10]), (8, [0, 1, 6, 7, 8, 9, 10, 43]), (9, [0, 1, 6, 7, 8, 9, 10]), (10, [0, 1, 6, 7, 8, 9])], []⟩ := by kernel_rfl
-- slices.choosePivotOrdered[int64]
theorem fn209 : TT.fn 209 = some Try.f209 := by kernel_rfl
theorem md209 : (TT.an 209).mode = 0 := by kernel_rfl
theorem fi209 : FI.of Try.f209 (TT.an 209) = ⟨[.tmp 6, .tmp 7], 57, [(0, [0, 1, 2]), (1, [0, 1, 8]), (2, [0, 1, 8, 9]), (3, [0, 1, 8, 9, 10]), (4, [0, 1, 8, 9, 10, 11]), (5, [0, 8, 9, 10, 11, 12]), (6, [0, 8, 9, 10, 11, 12, 32]), (7, [0, 9, 10, 11, 12, 34]), (8, [0, 9, 10, 11, 12]), (9, [0, 9, 10, 11, 12]), (10, [0, 9, 10, 11, 12]), (11, [9, 11]), (12, [11, 49]), (13, [6, 7]), (14, [11, 49, 51]), (15, [6, 7]), (16, [11, 54]), (17, [6, 7])], []⟩ := by kernel_rfl
-- slices.reverseRangeOrdered[int64]
theorem fn210 : TT.fn 210 = some Try.f210 := by kernel_rfl
theorem md210 : (TT.an 210).mode = 0 := by kernel_rfl
theorem fi210 : FI.of Try.f210 (TT.an 210) = ⟨[], 32, [(0, [0, 2, 6]), (1, [0, 6, 7]), (2, [0, 6, 7, 13]), (3, [0, 6, 7]), (4, [0, 6, 7]), (5, [0, 6, 7])], []⟩ := by kernel_rfl
-- slices.partialInsertionSortOrdered[int64]
theorem fn211 : TT.fn 211 = some Try.f211 := by kernel_rfl
theorem md211 : (TT.an 211).mode = 0 := by kernel_rfl
theorem fi211 : FI.of Try.f211 (TT.an 211) = ⟨[.tmp 6], 133, [(0, [0, 1, 2]), (1, [0, 1, 2, 7]), (2, [0, 1, 2, 7, 8]), (3, [0, 1, 2, 7, 8, 14]), (4, [0, 1, 2, 7, 8]), (5, [0, 1, 2, 7, 8, 32]), (6, [0, 1, 2, 7, 8]), (7, [0, 1, 2, 7, 8, 37]), (8, [6]), (9, [0, 1, 2, 7, 8, 41]), (10, [6]), (11, [0, 1, 2, 7, 8]), (12, [0, 1, 2, 7, 8, 61]), (13, [0, 1, 2, 7, 8, 9]), (14, [0, 1, 2, 7, 8, 9, 65]), (15, [0, 1, 2, 7, 8, 9]), (16, [0, 1, 2, 7, 8, 9, 78]), (17, [0, 1, 2, 7, 8, 9]), (18, [0, 1, 2, 7, 8, 98]), (19, [0, 1, 2, 7, 8, 10]), (20, [0, 1, 2, 7, 8, 10, 103]), (21, [0, 1, 2, 7, 8, 10]), (22, [0, 1, 2, 7, 8, 10, 116]), (23, [0, 1, 2, 7, 8, 10]), (24, [6])], []⟩ := by kernel_rfl
-- cmp.Less[int64]
theorem fn212 : TT.fn 212 = some Try.f212 := by kernel_rfl
theorem md212 : (TT.an 212).mode = 1 := by kernel_rfl
theorem fi212 : FI.of Try.f212 (TT.an 212) = ⟨[.tmp 4], 17, [(0, [0, 1]), (1, [4])], []⟩ := by kernel_rfl
-- slices.partitionEqualOrdered[int64]
theorem fn213 : TT.fn 213 = some Try.f213 := by kernel_rfl
theorem md213 : (TT.an 213).mode = 0 := by kernel_rfl
theorem fi213 : FI.of Try.f213 (TT.an 213) = ⟨[.tmp 8], 84, [(0, [0, 1, 2, 3]), (1, [0, 1, 2]), (2, [0, 1, 9, 10]), (3, [0, 1, 9, 10, 43]), (4, [0, 1, 9, 10]), (5, [0, 1, 9, 10, 59]), (6, [0, 1, 9, 10]), (7, [0, 1, 9, 10, 64]), (8, [0, 1, 9, 10]), (9, [0, 1, 9, 10]), (10, [0, 1, 9, 10]), (11, [8])], []⟩ := by kernel_rfl
-- slices.partitionOrdered[int64]
theorem fn214 : TT.fn 214 = some Try.f214 := by kernel_rfl
theorem md214 : (TT.an 214).mode = 0 := by kernel_rfl
theorem fi214 : FI.of Try.f214 (TT.an 214) = ⟨[.tmp 8, .tmp 9], 168, [(0, [0, 1, 2, 3]), (1, [0, 1, 2]), (2, [0, 1, 10, 11]), (3, [0, 1, 10, 11, 43]), (4, [0, 1, 10, 11]), (5, [0, 1, 10, 11, 60]), (6, [0, 1, 10, 11]), (7, [0, 1, 10, 11, 65]), (8, [11]), (9, [8, 9]), (10, [0, 1, 10, 11]), (11, [0, 1, 10, 11]), (12, [0, 1, 10, 11]), (13, [0, 1, 10, 11, 112]), (14, [0, 1, 10, 11]), (15, [0, 1, 10, 11, 129]), (16, [0, 1, 10, 11]), (17, [0, 1, 10, 11, 134]), (18, [0, 1, 10, 11]), (19, [0, 1, 10, 11]), (20, [0, 1, 10, 11]), (21, [11]), (22, [8, 9])], []⟩ := by kernel_rfl
-- math/bits.OnesCount64
theorem fn215 : TT.fn 215 = some Try.f215 := by kernel_rfl
theorem md215 : (TT.an 215).mode = 1 := by kernel_rfl
theorem fi215 : FI.of Try.f215 (TT.an 215) = ⟨[.tmp 2], 35, [(0, [0]), (1, [0]), (2, [0]), (3, [0]), (4, [0]), (5, [0]), (6, [0]), (7, [2])], []⟩ := by kernel_rfl
-- slices.siftDownOrdered[int64]
theorem fn216 : TT.fn 216 = some Try.f216 := by kernel_rfl
theorem md216 : (TT.an 216).mode = 0 := by kernel_rfl
theorem fi216 : FI.of Try.f216 (TT.an 216) = ⟨[], 76, [(0, [0, 2, 3, 8]), (1, [0, 2, 3, 8, 9]), (2, [0, 2, 3, 8, 9, 16]), (3, [0, 2, 3, 8, 9, 36]), (4, [0, 2, 3, 8, 9]), (5, [0, 2, 3, 8, 9, 52]), (6, [0, 2, 3, 9]), (7, [0, 2, 3, 8])], []⟩ := by kernel_rfl
-- slices.nextPowerOfTwo
theorem fn217 : TT.fn 217 = some Try.f217 := by kernel_rfl
theorem md217 : (TT.an 217).mode = 1 := by kernel_rfl
theorem fi217 : FI.of Try.f217 (TT.an 217) = ⟨[.tmp 2], 7, [(0, [0]), (1, [2])], []⟩ := by kernel_rfl
-- (*slices.xorshift).Next
theorem fn218 : TT.fn 218 = some Try.f218 := by kernel_rfl
theorem md218 : (TT.an 218).mode = 0 := by kernel_rfl
theorem fi218 : FI.of Try.f218 (TT.an 218) = ⟨[.tmp 2], 33, [(0, [0]), (1, [0]), (2, [0]), (3, [0]), (4, [2])], []⟩ := by kernel_rfl
-- slices.medianAdjacentOrdered[int64]
theorem fn219 : TT.fn 219 = some Try.f219 := by kernel_rfl
theorem md219 : (TT.an 219).mode = 0 := by kernel_rfl
theorem fi219 : FI.of Try.f219 (TT.an 219) = ⟨[.tmp 6], 15, [(0, [0, 1, 2]), (1, [6])], []⟩ := by kernel_rfl
-- slices.medianOrdered[int64]
theorem fn220 : TT.fn 220 = some Try.f220 := by kernel_rfl
theorem md220 : (TT.an 220).mode = 0 := by kernel_rfl
theorem fi220 : FI.of Try.f220 (TT.an 220) = ⟨[.tmp 10], 36, [(0, [0, 1, 2, 3, 4]), (1, [0, 1, 2, 3, 4]), (2, [0, 1, 2, 4]), (3, [2]), (4, [10])], []⟩ := by kernel_rfl
-- cmp.isNaN[int64]
theorem fn221 : TT.fn 221 = some Try.f221 := by kernel_rfl
theorem md221 : (TT.an 221).mode = 1 := by kernel_rfl
theorem fi221 : FI.of Try.f221 (TT.an 221) = ⟨[.tmp 2], 6, [(0, [0]), (1, [2])], []⟩ := by kernel_rfl
-- slices.order2Ordered[int64]
theorem fn222 : TT.fn 222 = some Try.f222 := by kernel_rfl
theorem md222 : (TT.an 222).mode = 0 := by kernel_rfl
theorem fi222 : FI.of Try.f222 (TT.an 222) = ⟨[.tmp 8, .tmp 9], 28, [(0, [0, 1, 2, 3]), (1, [1, 2, 3, 18]), (2, [1, 2]), (3, [8, 9]), (4, [8, 9])], []⟩ := by kernel_rfl
theorem ty1 : TT.ty 1 = some ⟨.func, 1, 8, [.nilF]⟩ := by kernel_rfl
theorem ty2 : TT.ty 2 = some ⟨.int .i64, 1, 8, [.int .i64 0]⟩ := by kernel_rfl
theorem ty3 : TT.ty 3 = some ⟨.int .i64, 1, 8, [.int .i64 0]⟩ := by kernel_rfl
theorem ty4 : TT.ty 4 = some ⟨.bool, 1, 1, [.bool false]⟩ := by kernel_rfl
theorem ty5 : TT.ty 5 = some ⟨.int .u8, 1, 1, [.int .u8 0]⟩ := by kernel_rfl
theorem ty6 : TT.ty 6 = some ⟨.int .u8, 1, 1, [.int .u8 0]⟩ := by kernel_rfl
theorem ty7 : TT.ty 7 = some ⟨.struct [(2, 0), (3, 1), (4, 2), (6, 3)], 4, 24, [.int .i64 0, .int .i64 0, .bool false, .int .u8 0]⟩ := by kernel_rfl
theorem ty8 : TT.ty 8 = some ⟨.struct [(2, 0), (3, 1), (4, 2), (6, 3)], 4, 24, [.int .i64 0, .int .i64 0, .bool false, .int .u8 0]⟩ := by kernel_rfl
theorem ty9 : TT.ty 9 = some ⟨.string, 1, 16, [.str []]⟩ := by kernel_rfl
theorem ty10 : TT.ty 10 = some ⟨.string, 1, 16, [.str []]⟩ := by kernel_rfl
theorem ty11 : TT.ty 11 = some ⟨.string, 1, 16, [.str []]⟩ := by kernel_rfl
theorem ty12 : TT.ty 12 = some ⟨.int .u64, 1, 8, [.int .u64 0]⟩ := by kernel_rfl
theorem ty15 : TT.ty 15 = some ⟨.pointer, 1, 8, [.nilP]⟩ := by kernel_rfl
theorem ty16 : TT.ty 16 = some ⟨.pointer, 1, 8, [.nilP]⟩ := by kernel_rfl
theorem ty17 : TT.ty 17 = some ⟨.pointer, 1, 8, [.nilP]⟩ := by kernel_rfl
theorem ty20 : TT.ty 20 = some ⟨.iface, 1, 16, [.nilI]⟩ := by kernel_rfl
theorem ty21 : TT.ty 21 = some ⟨.int .i32, 1, 4, [.int .i32 0]⟩ := by kernel_rfl
theorem ty22 : TT.ty 22 = some ⟨.slice 76, 1, 24, [.nilS]⟩ := by kernel_rfl
theorem ty23 : TT.ty 23 = some ⟨.func, 1, 8, [.nilF]⟩ := by kernel_rfl
theorem ty24 : TT.ty 24 = some ⟨.func, 1, 8, [.nilF]⟩ := by kernel_rfl
theorem ty25 : TT.ty 25 = some ⟨.slice 41, 1, 24, [.nilS]⟩ := by kernel_rfl
theorem ty26 : TT.ty 26 = some ⟨.func, 1, 8, [.nilF]⟩ := by kernel_rfl
theorem ty27 : TT.ty 27 = some ⟨.func, 1, 8, [.nilF]⟩ := by kernel_rfl
theorem ty28 : TT.ty 28 = some ⟨.func, 1, 8, [.nilF]⟩ := by kernel_rfl
theorem ty29 : TT.ty 29 = some ⟨.slice 22, 1, 24, [.nilS]⟩ := by kernel_rfl
theorem ty30 : TT.ty 30 = some ⟨.struct [(29, 0)], 1, 24, [.nilS]⟩ := by kernel_rfl
theorem ty31 : TT.ty 31 = some ⟨.struct [(29, 0)], 1, 24, [.nilS]⟩ := by kernel_rfl
theorem ty32 : TT.ty 32 = some ⟨.func, 1, 8, [.nilF]⟩ := by kernel_rfl
theorem ty33 : TT.ty 33 = some ⟨.func, 1, 8, [.nilF]⟩ := by kernel_rfl
theorem ty34 : TT.ty 34 = some ⟨.slice 25, 1, 24, [.nilS]⟩ := by kernel_rfl
theorem ty35 : TT.ty 35 = some ⟨.struct [(34, 0)], 1, 24, [.nilS]⟩ := by kernel_rfl
theorem ty36 : TT.ty 36 = some ⟨.struct [(34, 0)], 1, 24, [.nilS]⟩ := by kernel_rfl
theorem ty37 : TT.ty 37 = some ⟨.func, 1, 8, [.nilF]⟩ := by kernel_rfl
theorem ty38 : TT.ty 38 = some ⟨.func, 1, 8, [.nilF]⟩ := by kernel_rfl
theorem ty39 : TT.ty 39 = some ⟨.func, 1, 8, [.nilF]⟩ := by kernel_rfl
theorem ty40 : TT.ty 40 = some ⟨.struct [(2, 0), (2, 1)], 2, 16, [.int .i64 0, .int .i64 0]⟩ := by kernel_rfl
theorem ty41 : TT.ty 41 = some ⟨.struct [(2, 0), (2, 1)], 2, 16, [.int .i64 0, .int .i64 0]⟩ := by kernel_rfl
theorem ty43 : TT.ty 43 = some ⟨.func, 1, 8, [.nilF]⟩ := by kernel_rfl
theorem ty44 : TT.ty 44 = some ⟨.func, 1, 8, [.nilF]⟩ := by kernel_rfl
theorem ty45 : TT.ty 45 = some ⟨.func, 1, 8, [.nilF]⟩ := by kernel_rfl
theorem ty46 : TT.ty 46 = some ⟨.func, 1, 8, [.nilF]⟩ := by kernel_rfl
theorem ty47 : TT.ty 47 = some ⟨.func, 1, 8, [.nilF]⟩ := by kernel_rfl
theorem ty48 : TT.ty 48 = some ⟨.slice 2, 1, 24, [.nilS]⟩ := by kernel_rfl
theorem ty49 : TT.ty 49 = some ⟨.func, 1, 8, [.nilF]⟩ := by kernel_rfl
theorem ty50 : TT.ty 50 = some ⟨.func, 1, 8, [.nilF]⟩ := by kernel_rfl
theorem ty51 : TT.ty 51 = some ⟨.func, 1, 8, [.nilF]⟩ := by kernel_rfl
theorem ty52 : TT.ty 52 = some ⟨.func, 1, 8, [.nilF]⟩ := by kernel_rfl
theorem ty53 : TT.ty 53 = some ⟨.func, 1, 8, [.nilF]⟩ := by kernel_rfl
theorem ty54 : TT.ty 54 = some ⟨.func, 1, 8, [.nilF]⟩ := by kernel_rfl
theorem ty55 : TT.ty 55 = some ⟨.slice 5, 1, 24, [.nilS]⟩ := by kernel_rfl
theorem ty56 : TT.ty 56 = some ⟨.func, 1, 8, [.nilF]⟩ := by kernel_rfl
theorem ty57 : TT.ty 57 = some ⟨.func, 1, 8, [.nilF]⟩ := by kernel_rfl
theorem ty58 : TT.ty 58 = some ⟨.int .u64, 1, 8, [.int .u64 0]⟩ := by kernel_rfl
theorem ty59 : TT.ty 59 = some ⟨.func, 1, 8, [.nilF]⟩ := by kernel_rfl
theorem ty61 : TT.ty 61 = some ⟨.func, 1, 8, [.nilF]⟩ := by kernel_rfl
theorem ty62 : TT.ty 62 = some ⟨.func, 1, 8, [.nilF]⟩ := by kernel_rfl
theorem ty63 : TT.ty 63 = some ⟨.func, 1, 8, [.nilF]⟩ := by kernel_rfl
theorem ty64 : TT.ty 64 = some ⟨.func, 1, 8, [.nilF]⟩ := by kernel_rfl
theorem ty65 : TT.ty 65 = some ⟨.func, 1, 8, [.nilF]⟩ := by kernel_rfl
theorem ty66 : TT.ty 66 = some ⟨.func, 1, 8, [.nilF]⟩ := by kernel_rfl
theorem ty68 : TT.ty 68 = some ⟨.func, 1, 8, [.nilF]⟩ := by kernel_rfl
theorem ty69 : TT.ty 69 = some ⟨.func, 1, 8, [.nilF]⟩ := by kernel_rfl
theorem ty70 : TT.ty 70 = some ⟨.func, 1, 8, [.nilF]⟩ := by kernel_rfl
theorem ty71 : TT.ty 71 = some ⟨.func, 1, 8, [.nilF]⟩ := by kernel_rfl
theorem ty73 : TT.ty 73 = some ⟨.func, 1, 8, [.nilF]⟩ := by kernel_rfl
theorem ty74 : TT.ty 74 = some ⟨.func, 1, 8, [.nilF]⟩ := by kernel_rfl
theorem ty75 : TT.ty 75 = some ⟨.func, 1, 8, [.nilF]⟩ := by kernel_rfl
theorem ty76 : TT.ty 76 = some ⟨.struct [(2, 0), (2, 1)], 2, 16, [.int .i64 0, .int .i64 0]⟩ := by kernel_rfl
theorem ty78 : TT.ty 78 = some ⟨.func, 1, 8, [.nilF]⟩ := by kernel_rfl
theorem ty79 : TT.ty 79 = some ⟨.func, 1, 8, [.nilF]⟩ := by kernel_rfl
theorem ty80 : TT.ty 80 = some ⟨.func, 1, 8, [.nilF]⟩ := by kernel_rfl
theorem ty81 : TT.ty 81 = some ⟨.pointer, 1, 8, [.nilP]⟩ := by kernel_rfl
theorem ty82 : TT.ty 82 = some ⟨.func, 1, 8, [.nilF]⟩ := by kernel_rfl
theorem ty83 : TT.ty 83 = some ⟨.func, 1, 8, [.nilF]⟩ := by kernel_rfl
theorem ty84 : TT.ty 84 = some ⟨.func, 1, 8, [.nilF]⟩ := by kernel_rfl
theorem ty85 : TT.ty 85 = some ⟨.func, 1, 8, [.nilF]⟩ := by kernel_rfl
theorem ty86 : TT.ty 86 = some ⟨.func, 1, 8, [.nilF]⟩ := by kernel_rfl
theorem ty87 : TT.ty 87 = some ⟨.func, 1, 8, [.nilF]⟩ := by kernel_rfl
theorem ty88 : TT.ty 88 = some ⟨.func, 1, 8, [.nilF]⟩ := by kernel_rfl
theorem ty89 : TT.ty 89 = some ⟨.slice 177, 1, 24, [.nilS]⟩ := by kernel_rfl
theorem ty90 : TT.ty 90 = some ⟨.slice 177, 1, 24, [.nilS]⟩ := by kernel_rfl
theorem ty91 : TT.ty 91 = some ⟨.struct [(4, 0), (90, 1), (90, 2)], 3, 56, [.bool false, .nilS, .nilS]⟩ := by kernel_rfl
theorem ty92 : TT.ty 92 = some ⟨.struct [(4, 0), (90, 1), (90, 2)], 3, 56, [.bool false, .nilS, .nilS]⟩ := by kernel_rfl
theorem ty93 : TT.ty 93 = some ⟨.func, 1, 8, [.nilF]⟩ := by kernel_rfl
theorem ty94 : TT.ty 94 = some ⟨.func, 1, 8, [.nilF]⟩ := by kernel_rfl
theorem ty95 : TT.ty 95 = some ⟨.func, 1, 8, [.nilF]⟩ := by kernel_rfl
theorem ty96 : TT.ty 96 = some ⟨.func, 1, 8, [.nilF]⟩ := by kernel_rfl
theorem ty97 : TT.ty 97 = some ⟨.slice 2, 1, 24, [.nilS]⟩ := by kernel_rfl
theorem ty98 : TT.ty 98 = some ⟨.struct [(4, 0), (97, 1), (97, 2), (4, 3), (41, 4)], 6, 80, [.bool false, .nilS, .nilS, .bool false, .int .i64 0, .int .i64 0]⟩ := by kernel_rfl
theorem ty99 : TT.ty 99 = some ⟨.struct [(4, 0), (97, 1), (97, 2), (4, 3), (41, 4)], 6, 80, [.bool false, .nilS, .nilS, .bool false, .int .i64 0, .int .i64 0]⟩ := by kernel_rfl
theorem ty100 : TT.ty 100 = some ⟨.func, 1, 8, [.nilF]⟩ := by kernel_rfl
theorem ty101 : TT.ty 101 = some ⟨.slice 99, 1, 24, [.nilS]⟩ := by kernel_rfl
theorem ty102 : TT.ty 102 = some ⟨.func, 1, 8, [.nilF]⟩ := by kernel_rfl
theorem ty103 : TT.ty 103 = some ⟨.func, 1, 8, [.nilF]⟩ := by kernel_rfl
theorem ty104 : TT.ty 104 = some ⟨.slice 92, 1, 24, [.nilS]⟩ := by kernel_rfl
theorem ty105 : TT.ty 105 = some ⟨.func, 1, 8, [.nilF]⟩ := by kernel_rfl
theorem ty106 : TT.ty 106 = some ⟨.func, 1, 8, [.nilF]⟩ := by kernel_rfl
theorem ty107 : TT.ty 107 = some ⟨.func, 1, 8, [.nilF]⟩ := by kernel_rfl
theorem ty108 : TT.ty 108 = some ⟨.func, 1, 8, [.nilF]⟩ := by kernel_rfl
theorem ty109 : TT.ty 109 = some ⟨.func, 1, 8, [.nilF]⟩ := by kernel_rfl
theorem ty110 : TT.ty 110 = some ⟨.func, 1, 8, [.nilF]⟩ := by kernel_rfl
theorem ty111 : TT.ty 111 = some ⟨.func, 1, 8, [.nilF]⟩ := by kernel_rfl
theorem ty112 : TT.ty 112 = some ⟨.func, 1, 8, [.nilF]⟩ := by kernel_rfl
theorem ty113 : TT.ty 113 = some ⟨.func, 1, 8, [.nilF]⟩ := by kernel_rfl
theorem ty114 : TT.ty 114 = some ⟨.func, 1, 8, [.nilF]⟩ := by kernel_rfl
theorem ty115 : TT.ty 115 = some ⟨.slice 104, 1, 24, [.nilS]⟩ := by kernel_rfl
theorem ty116 : TT.ty 116 = some ⟨.func, 1, 8, [.nilF]⟩ := by kernel_rfl
theorem ty117 : TT.ty 117 = some ⟨.func, 1, 8, [.nilF]⟩ := by kernel_rfl
theorem ty118 : TT.ty 118 = some ⟨.func, 1, 8, [.nilF]⟩ := by kernel_rfl
theorem ty119 : TT.ty 119 = some ⟨.func, 1, 8, [.nilF]⟩ := by kernel_rfl
theorem ty120 : TT.ty 120 = some ⟨.func, 1, 8, [.nilF]⟩ := by kernel_rfl
theorem ty121 : TT.ty 121 = some ⟨.func, 1, 8, [.nilF]⟩ := by kernel_rfl
theorem ty122 : TT.ty 122 = some ⟨.func, 1, 8, [.nilF]⟩ := by kernel_rfl
theorem ty123 : TT.ty 123 = some ⟨.func, 1, 8, [.nilF]⟩ := by kernel_rfl
theorem ty124 : TT.ty 124 = some ⟨.func, 1, 8, [.nilF]⟩ := by kernel_rfl
theorem ty125 : TT.ty 125 = some ⟨.func, 1, 8, [.nilF]⟩ := by kernel_rfl
theorem ty126 : TT.ty 126 = some ⟨.func, 1, 8, [.nilF]⟩ := by kernel_rfl
theorem ty127 : TT.ty 127 = some ⟨.func, 1, 8, [.nilF]⟩ := by kernel_rfl
theorem ty128 : TT.ty 128 = some ⟨.pointer, 1, 8, [.nilP]⟩ := by kernel_rfl
theorem ty129 : TT.ty 129 = some ⟨.func, 1, 8, [.nilF]⟩ := by kernel_rfl
theorem ty130 : TT.ty 130 = some ⟨.func, 1, 8, [.nilF]⟩ := by kernel_rfl
theorem ty131 : TT.ty 131 = some ⟨.func, 1, 8, [.nilF]⟩ := by kernel_rfl
theorem ty132 : TT.ty 132 = some ⟨.func, 1, 8, [.nilF]⟩ := by kernel_rfl
theorem ty133 : TT.ty 133 = some ⟨.func, 1, 8, [.nilF]⟩ := by kernel_rfl
theorem ty134 : TT.ty 134 = some ⟨.func, 1, 8, [.nilF]⟩ := by kernel_rfl
theorem ty135 : TT.ty 135 = some ⟨.func, 1, 8, [.nilF]⟩ := by kernel_rfl
theorem ty136 : TT.ty 136 = some ⟨.func, 1, 8, [.nilF]⟩ := by kernel_rfl
theorem ty137 : TT.ty 137 = some ⟨.func, 1, 8, [.nilF]⟩ := by kernel_rfl
theorem ty138 : TT.ty 138 = some ⟨.func, 1, 8, [.nilF]⟩ := by kernel_rfl
theorem ty139 : TT.ty 139 = some ⟨.func, 1, 8, [.nilF]⟩ := by kernel_rfl
theorem ty140 : TT.ty 140 = some ⟨.func, 1, 8, [.nilF]⟩ := by kernel_rfl
theorem ty141 : TT.ty 141 = some ⟨.func, 1, 8, [.nilF]⟩ := by kernel_rfl
theorem ty142 : TT.ty 142 = some ⟨.func, 1, 8, [.nilF]⟩ := by kernel_rfl
theorem ty143 : TT.ty 143 = some ⟨.int .u64, 1, 8, [.int .u64 0]⟩ := by kernel_rfl
theorem ty144 : TT.ty 144 = some ⟨.struct [(143, 0), (143, 1)], 2, 16, [.int .u64 0, .int .u64 0]⟩ := by kernel_rfl
theorem ty145 : TT.ty 145 = some ⟨.struct [(143, 0), (143, 1)], 2, 16, [.int .u64 0, .int .u64 0]⟩ := by kernel_rfl
theorem ty146 : TT.ty 146 = some ⟨.func, 1, 8, [.nilF]⟩ := by kernel_rfl
theorem ty147 : TT.ty 147 = some ⟨.func, 1, 8, [.nilF]⟩ := by kernel_rfl
theorem ty148 : TT.ty 148 = some ⟨.func, 1, 8, [.nilF]⟩ := by kernel_rfl
theorem ty149 : TT.ty 149 = some ⟨.func, 1, 8, [.nilF]⟩ := by kernel_rfl
theorem ty150 : TT.ty 150 = some ⟨.func, 1, 8, [.nilF]⟩ := by kernel_rfl
theorem ty151 : TT.ty 151 = some ⟨.func, 1, 8, [.nilF]⟩ := by kernel_rfl
theorem ty152 : TT.ty 152 = some ⟨.func, 1, 8, [.nilF]⟩ := by kernel_rfl
theorem ty153 : TT.ty 153 = some ⟨.func, 1, 8, [.nilF]⟩ := by kernel_rfl
theorem ty154 : TT.ty 154 = some ⟨.func, 1, 8, [.nilF]⟩ := by kernel_rfl
theorem ty155 : TT.ty 155 = some ⟨.func, 1, 8, [.nilF]⟩ := by kernel_rfl
theorem ty156 : TT.ty 156 = some ⟨.func, 1, 8, [.nilF]⟩ := by kernel_rfl
theorem ty157 : TT.ty 157 = some ⟨.func, 1, 8, [.nilF]⟩ := by kernel_rfl
theorem ty158 : TT.ty 158 = some ⟨.func, 1, 8, [.nilF]⟩ := by kernel_rfl
theorem ty159 : TT.ty 159 = some ⟨.func, 1, 8, [.nilF]⟩ := by kernel_rfl
theorem ty160 : TT.ty 160 = some ⟨.func, 1, 8, [.nilF]⟩ := by kernel_rfl
theorem ty161 : TT.ty 161 = some ⟨.func, 1, 8, [.nilF]⟩ := by kernel_rfl
theorem ty162 : TT.ty 162 = some ⟨.func, 1, 8, [.nilF]⟩ := by kernel_rfl
theorem ty163 : TT.ty 163 = some ⟨.func, 1, 8, [.nilF]⟩ := by kernel_rfl
theorem ty164 : TT.ty 164 = some ⟨.func, 1, 8, [.nilF]⟩ := by kernel_rfl
theorem ty166 : TT.ty 166 = some ⟨.func, 1, 8, [.nilF]⟩ := by kernel_rfl
theorem ty167 : TT.ty 167 = some ⟨.func, 1, 8, [.nilF]⟩ := by kernel_rfl
theorem ty168 : TT.ty 168 = some ⟨.struct [(55, 0), (3, 1), (143, 2)], 3, 40, [.nilS, .int .i64 0, .int .u64 0]⟩ := by kernel_rfl
theorem ty169 : TT.ty 169 = some ⟨.struct [(55, 0), (3, 1), (143, 2)], 3, 40, [.nilS, .int .i64 0, .int .u64 0]⟩ := by kernel_rfl
theorem ty170 : TT.ty 170 = some ⟨.func, 1, 8, [.nilF]⟩ := by kernel_rfl
theorem ty171 : TT.ty 171 = some ⟨.func, 1, 8, [.nilF]⟩ := by kernel_rfl
theorem ty172 : TT.ty 172 = some ⟨.func, 1, 8, [.nilF]⟩ := by kernel_rfl
theorem ty173 : TT.ty 173 = some ⟨.func, 1, 8, [.nilF]⟩ := by kernel_rfl
theorem ty174 : TT.ty 174 = some ⟨.func, 1, 8, [.nilF]⟩ := by kernel_rfl
theorem ty175 : TT.ty 175 = some ⟨.func, 1, 8, [.nilF]⟩ := by kernel_rfl
theorem ty176 : TT.ty 176 = some ⟨.func, 1, 8, [.nilF]⟩ := by kernel_rfl
theorem ty177 : TT.ty 177 = some ⟨.int .u32, 1, 4, [.int .u32 0]⟩ := by kernel_rfl
theorem ty178 : TT.ty 178 = some ⟨.func, 1, 8, [.nilF]⟩ := by kernel_rfl
theorem ty180 : TT.ty 180 = some ⟨.func, 1, 8, [.nilF]⟩ := by kernel_rfl
theorem ty181 : TT.ty 181 = some ⟨.func, 1, 8, [.nilF]⟩ := by kernel_rfl
theorem ty183 : TT.ty 183 = some ⟨.func, 1, 8, [.nilF]⟩ := by kernel_rfl
theorem ty184 : TT.ty 184 = some ⟨.func, 1, 8, [.nilF]⟩ := by kernel_rfl
theorem ty186 : TT.ty 186 = some ⟨.func, 1, 8, [.nilF]⟩ := by kernel_rfl
theorem ty187 : TT.ty 187 = some ⟨.func, 1, 8, [.nilF]⟩ := by kernel_rfl
theorem ty188 : TT.ty 188 = some ⟨.func, 1, 8, [.nilF]⟩ := by kernel_rfl
theorem ty190 : TT.ty 190 = some ⟨.func, 1, 8, [.nilF]⟩ := by kernel_rfl
theorem ty191 : TT.ty 191 = some ⟨.func, 1, 8, [.nilF]⟩ := by kernel_rfl
theorem ty192 : TT.ty 192 = some ⟨.func, 1, 8, [.nilF]⟩ := by kernel_rfl
theorem ty193 : TT.ty 193 = some ⟨.func, 1, 8, [.nilF]⟩ := by kernel_rfl
theorem ty195 : TT.ty 195 = some ⟨.func, 1, 8, [.nilF]⟩ := by kernel_rfl
theorem ty196 : TT.ty 196 = some ⟨.func, 1, 8, [.nilF]⟩ := by kernel_rfl
theorem ty197 : TT.ty 197 = some ⟨.func, 1, 8, [.nilF]⟩ := by kernel_rfl
theorem ty198 : TT.ty 198 = some ⟨.func, 1, 8, [.nilF]⟩ := by kernel_rfl
theorem ty199 : TT.ty 199 = some ⟨.func, 1, 8, [.nilF]⟩ := by kernel_rfl
theorem ty200 : TT.ty 200 = some ⟨.iface, 1, 16, [.nilI]⟩ := by kernel_rfl
theorem ty201 : TT.ty 201 = some ⟨.iface, 1, 16, [.nilI]⟩ := by kernel_rfl
theorem ty203 : TT.ty 203 = some ⟨.func, 1, 8, [.nilF]⟩ := by kernel_rfl
theorem ty204 : TT.ty 204 = some ⟨.func, 1, 8, [.nilF]⟩ := by kernel_rfl
theorem ty205 : TT.ty 205 = some ⟨.int .i64, 1, 8, [.int .i64 0]⟩ := by kernel_rfl
theorem ty207 : TT.ty 207 = some ⟨.func, 1, 8, [.nilF]⟩ := by kernel_rfl
theorem ty208 : TT.ty 208 = some ⟨.func, 1, 8, [.nilF]⟩ := by kernel_rfl
theorem ty209 : TT.ty 209 = some ⟨.func, 1, 8, [.nilF]⟩ := by kernel_rfl
theorem ty211 : TT.ty 211 = some ⟨.func, 1, 8, [.nilF]⟩ := by kernel_rfl
theorem ty212 : TT.ty 212 = some ⟨.int .u64, 1, 8, [.int .u64 0]⟩ := by kernel_rfl
theorem ty213 : TT.ty 213 = some ⟨.func, 1, 8, [.nilF]⟩ := by kernel_rfl
theorem ty214 : TT.ty 214 = some ⟨.func, 1, 8, [.nilF]⟩ := by kernel_rfl
theorem ty215 : TT.ty 215 = some ⟨.func, 1, 8, [.nilF]⟩ := by kernel_rfl
theorem ty216 : TT.ty 216 = some ⟨.pointer, 1, 8, [.nilP]⟩ := by kernel_rfl
theorem ty217 : TT.ty 217 = some ⟨.func, 1, 8, [.nilF]⟩ := by kernel_rfl
theorem ty218 : TT.ty 218 = some ⟨.pointer, 1, 8, [.nilP]⟩ := by kernel_rfl
theorem ty220 : TT.ty 220 = some ⟨.func, 1, 8, [.nilF]⟩ := by kernel_rfl
theorem ty221 : TT.ty 221 = some ⟨.pointer, 1, 8, [.nilP]⟩ := by kernel_rfl
theorem ty222 : TT.ty 222 = some ⟨.func, 1, 8, [.nilF]⟩ := by kernel_rfl
theorem ty225 : TT.ty 225 = some ⟨.array 0 16, 0, 0, []⟩ := by kernel_rfl
theorem ty228 : TT.ty 228 = some ⟨.func, 1, 8, [.nilF]⟩ := by kernel_rfl
theorem ty229 : TT.ty 229 = some ⟨.int .u8, 1, 1, [.int .u8 0]⟩ := by kernel_rfl
theorem ty230 : TT.ty 230 = some ⟨.int .u8, 1, 1, [.int .u8 0]⟩ := by kernel_rfl
theorem ty231 : TT.ty 231 = some ⟨.func, 1, 8, [.nilF]⟩ := by kernel_rfl
theorem ty232 : TT.ty 232 = some ⟨.pointer, 1, 8, [.nilP]⟩ := by kernel_rfl
theorem ty233 : TT.ty 233 = some ⟨.int .i32, 1, 4, [.int .i32 0]⟩ := by kernel_rfl
theorem ty234 : TT.ty 234 = some ⟨.int .i32, 1, 4, [.int .i32 0]⟩ := by kernel_rfl
theorem ty237 : TT.ty 237 = some ⟨.struct [(9, 0)], 1, 16, [.str []]⟩ := by kernel_rfl
theorem ty238 : TT.ty 238 = some ⟨.struct [(9, 0)], 1, 16, [.str []]⟩ := by kernel_rfl
theorem ty239 : TT.ty 239 = some ⟨.other, 1, 8, [.nilP]⟩ := by kernel_rfl
end Go.Proofs.Ytihoeimlkbjgmaa
