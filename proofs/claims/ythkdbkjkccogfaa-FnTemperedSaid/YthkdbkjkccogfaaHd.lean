/- Facts on the tables of this seat. Nothing is claimed here; no condition. -/
import Derived.Test.YthkdbkjkccogfaaAbsY
import Derived.Test.YthkdbkjkccogfaaTab
namespace Go.Proofs.Ythkdbkjkccogfaa
open Go Go.Abs
-- loop.example/g01121/laws.FnExactUntemperWord
theorem fn3 : TT.fn 3 = some Try.f3 := by kernel_rfl
theorem md3 : (TT.an 3).mode = 1 := by kernel_rfl
theorem fi3 : FI.of Try.f3 (TT.an 3) = ⟨[.tmp 4], 31, [(0, [1, 2]), (1, [1, 2, 5, 6]), (2, [5, 6, 7, 8]), (3, [30]), (4, [4]), (5, [4])], []⟩ := by kernel_rfl
-- loop.example/g01121/laws.FnTempered
theorem fn4 : TT.fn 4 = some Try.f4 := by kernel_rfl
theorem md4 : (TT.an 4).mode = 1 := by kernel_rfl
theorem fi4 : FI.of Try.f4 (TT.an 4) = ⟨[.tmp 4], 93, [(0, [0, 1]), (1, [0, 1, 20]), (2, [4]), (3, [1, 5]), (4, [1, 5, 6]), (5, [5, 6, 7]), (6, [5, 6, 7, 8, 9]), (7, [5, 6, 7, 8, 9, 10, 11]), (8, [5, 6, 8, 9, 10, 11, 12, 13]), (9, [5, 6, 8, 9, 10, 11, 12, 13, 14, 15]), (10, [5, 6, 8, 9, 10, 11, 12, 13, 15, 16, 17]), (11, [4])], []⟩ := by kernel_rfl
-- loop.example/g01121/laws.FnExactRegisterBits
theorem fn5 : TT.fn 5 = some Try.f5 := by kernel_rfl
theorem md5 : (TT.an 5).mode = 1 := by kernel_rfl
theorem fi5 : FI.of Try.f5 (TT.an 5) = ⟨[.tmp 6], 35, [(0, [1, 2, 3]), (1, [1, 2, 3, 7, 8]), (2, [7, 8, 9, 10]), (3, [34]), (4, [6]), (5, [6])], []⟩ := by kernel_rfl
-- loop.example/g01121/spec.UntemperWord
theorem fn6 : TT.fn 6 = some Try.f6 := by kernel_rfl
theorem md6 : (TT.an 6).mode = 1 := by kernel_rfl
theorem fi6 : FI.of Try.f6 (TT.an 6) = ⟨[.tmp 4, .tmp 5], 35, [(0, [1, 2]), (1, [1, 2, 12]), (2, [4, 5]), (3, [1, 2]), (4, [1, 2]), (5, [1, 2]), (6, [4, 5])], []⟩ := by kernel_rfl
-- loop.example/g01121/laws.toTemper
theorem fn7 : TT.fn 7 = some Try.f7 := by kernel_rfl
theorem md7 : (TT.an 7).mode = 1 := by kernel_rfl
theorem fi7 : FI.of Try.f7 (TT.an 7) = ⟨[.cell 2 26], 23, [(0, [1, 2]), (1, [1, 2, 3]), (2, [1, 2, 3]), (3, [1, 2, 3]), (4, [1, 2, 3]), (5, [1, 2, 3]), (6, [1, 2, 3]), (7, [2, 3]), (8, [2])], []⟩ := by kernel_rfl
-- loop.example/g01121/laws.r8Long
theorem fn9 : TT.fn 9 = some Try.f9 := by kernel_rfl
theorem md9 : (TT.an 9).mode = 1 := by kernel_rfl
theorem fi9 : FI.of Try.f9 (TT.an 9) = ⟨[.tmp 4], 13, [(0, [0, 1]), (1, [4])], []⟩ := by kernel_rfl
-- loop.example/g01121/spec.R8Temper
theorem fn10 : TT.fn 10 = some Try.f10 := by kernel_rfl
theorem md10 : (TT.an 10).mode = 1 := by kernel_rfl
theorem fi10 : FI.of Try.f10 (TT.an 10) = ⟨[.cell 2 26], 30, [(0, [0, 2]), (1, [2, 3]), (2, [2, 3, 4]), (3, [2, 3, 4]), (4, [2, 3, 4]), (5, [2, 3, 4]), (6, [2, 3, 4]), (7, [2, 4]), (8, [2])], []⟩ := by kernel_rfl
-- loop.example/g01121/spec.R8Number
theorem fn11 : TT.fn 11 = some Try.f11 := by kernel_rfl
theorem md11 : (TT.an 11).mode = 1 := by kernel_rfl
theorem fi11 : FI.of Try.f11 (TT.an 11) = ⟨[.tmp 4], 11, [(0, [0, 1]), (1, [1, 5]), (2, [4])], []⟩ := by kernel_rfl
-- loop.example/g01121/laws.r8At
theorem fn12 : TT.fn 12 = some Try.f12 := by kernel_rfl
theorem md12 : (TT.an 12).mode = 1 := by kernel_rfl
theorem fi12 : FI.of Try.f12 (TT.an 12) = ⟨[.tmp 6], 22, [(0, [0, 1, 2]), (1, [0, 1, 2, 14]), (2, [6]), (3, [6])], []⟩ := by kernel_rfl
-- loop.example/g01121/impl.TemperWord
theorem fn13 : TT.fn 13 = some Try.f13 := by kernel_rfl
theorem md13 : (TT.an 13).mode = 1 := by kernel_rfl
theorem fi13 : FI.of Try.f13 (TT.an 13) = ⟨[.tmp 4, .tmp 5], 27, [(0, [1, 2]), (1, [1, 2, 11]), (2, [4, 5]), (3, [1, 13, 14]), (4, [1, 13, 14, 15]), (5, [1, 7, 13, 14]), (6, [1, 13, 14]), (7, [1, 13, 14]), (8, [4, 5])], []⟩ := by kernel_rfl
-- loop.example/g01121/impl.ValidTemper
theorem fn14 : TT.fn 14 = some Try.f14 := by kernel_rfl
theorem md14 : (TT.an 14).mode = 1 := by kernel_rfl
theorem fi14 : FI.of Try.f14 (TT.an 14) = ⟨[.tmp 2], 21, [(0, [1]), (1, [2])], []⟩ := by kernel_rfl
-- loop.example/g01121/spec.RegisterBits
theorem fn15 : TT.fn 15 = some Try.f15 := by kernel_rfl
theorem md15 : (TT.an 15).mode = 1 := by kernel_rfl
theorem fi15 : FI.of Try.f15 (TT.an 15) = ⟨[.tmp 6, .tmp 7], 19, [(0, [1, 2, 3]), (1, [1, 2, 3, 15]), (2, [6, 7]), (3, [6, 7])], []⟩ := by kernel_rfl
-- loop.example/g01121/laws.toRegister
theorem fn16 : TT.fn 16 = some Try.f16 := by kernel_rfl
theorem md16 : (TT.an 16).mode = 1 := by kernel_rfl
theorem fi16 : FI.of Try.f16 (TT.an 16) = ⟨[.cell 2 39], 11, [(0, [1, 2]), (1, [1, 2, 3]), (2, [1, 2, 3]), (3, [2, 3]), (4, [2])], []⟩ := by kernel_rfl
-- loop.example/g01121/impl.RegisterBits
theorem fn17 : TT.fn 17 = some Try.f17 := by kernel_rfl
theorem md17 : (TT.an 17).mode = 1 := by kernel_rfl
theorem fi17 : FI.of Try.f17 (TT.an 17) = ⟨[.tmp 6, .tmp 7], 27, [(0, [1, 2, 3]), (1, [1, 2, 3, 18]), (2, [6, 7]), (3, [8]), (4, [6, 7])], []⟩ := by kernel_rfl
-- loop.example/g01121/spec.l08Temper
theorem fn18 : TT.fn 18 = some Try.f18 := by kernel_rfl
theorem md18 : (TT.an 18).mode = 0 := by kernel_rfl
theorem fi18 : FI.of Try.f18 (TT.an 18) = ⟨[.tmp 2], 43, [(0, [0]), (1, [2])], []⟩ := by kernel_rfl
-- loop.example/g01121/spec.l08Word
theorem fn19 : TT.fn 19 = some Try.f19 := by kernel_rfl
theorem md19 : (TT.an 19).mode = 1 := by kernel_rfl
theorem fi19 : FI.of Try.f19 (TT.an 19) = ⟨[.tmp 2], 5, [(0, [0]), (1, [2])], []⟩ := by kernel_rfl
-- loop.example/g01121/spec.l08Undo
theorem fn20 : TT.fn 20 = some Try.f20 := by kernel_rfl
theorem md20 : (TT.an 20).mode = 1 := by kernel_rfl
theorem fi20 : FI.of Try.f20 (TT.an 20) = ⟨[.tmp 6], 22, [(0, [0, 1, 2]), (1, [0, 1, 2, 7]), (2, [0, 1, 2, 7, 8]), (3, [0, 1, 2, 7, 8, 11]), (4, [0, 1, 2, 7, 8]), (5, [0, 1, 2, 7, 8]), (6, [6])], []⟩ := by kernel_rfl
-- loop.example/g01121/impl.isWord
theorem fn21 : TT.fn 21 = some Try.f21 := by kernel_rfl
theorem md21 : (TT.an 21).mode = 1 := by kernel_rfl
theorem fi21 : FI.of Try.f21 (TT.an 21) = ⟨[.tmp 4], 11, [(0, [1, 2]), (1, [4])], []⟩ := by kernel_rfl
-- (loop.example/g01121/impl.Temper).moves
theorem fn22 : TT.fn 22 = some Try.f22 := by kernel_rfl
theorem md22 : (TT.an 22).mode = 1 := by kernel_rfl
theorem fi22 : FI.of Try.f22 (TT.an 22) = ⟨[.cell 2 48], 22, [(0, [1, 2]), (1, [2])], []⟩ := by kernel_rfl
-- slices.Backward[[][2]int64,[2]int64]
theorem fn23 : TT.fn 23 = some Try.f23 := by kernel_rfl
theorem md23 : (TT.an 23).mode = 2 := by kernel_rfl
theorem fi23 : FI.of Try.f23 (TT.an 23) = ⟨[.tmp 2], 4, [(0, [1]), (1, [2])], []⟩ := by kernel_rfl
-- loop.example/g01121/impl.moved
theorem fn24 : TT.fn 24 = some Try.f24 := by kernel_rfl
theorem md24 : (TT.an 24).mode = 1 := by kernel_rfl
theorem fi24 : FI.of Try.f24 (TT.an 24) = ⟨[.tmp 6], 21, [(0, [0, 1, 2]), (1, [0, 1, 2, 8]), (2, [6]), (3, [6])], []⟩ := by kernel_rfl
-- loop.example/g01121/spec.l00From
theorem fn25 : TT.fn 25 = some Try.f25 := by kernel_rfl
theorem md25 : (TT.an 25).mode = 0 := by kernel_rfl
theorem fi25 : FI.of Try.f25 (TT.an 25) = ⟨[.tmp 2], 6, [(0, [0]), (1, [2])], []⟩ := by kernel_rfl
-- (*loop.example/g01121/spec.l00Src).pick
theorem fn26 : TT.fn 26 = some Try.f26 := by kernel_rfl
theorem md26 : (TT.an 26).mode = 0 := by kernel_rfl
theorem fi26 : FI.of Try.f26 (TT.an 26) = ⟨[.tmp 4], 20, [(0, [0, 1]), (1, [0, 1, 7]), (2, [4]), (3, [0, 1, 5]), (4, [0, 1, 5, 11]), (5, [1, 5]), (6, [4])], []⟩ := by kernel_rfl
-- loop.example/g01121/impl.allIn
theorem fn27 : TT.fn 27 = some Try.f27 := by kernel_rfl
theorem md27 : (TT.an 27).mode = 1 := by kernel_rfl
theorem fi27 : FI.of Try.f27 (TT.an 27) = ⟨[.tmp 6], 11, [(0, [0, 4, 5]), (1, [6])], []⟩ := by kernel_rfl
-- loop.example/g01121/spec.l02Both
theorem fn28 : TT.fn 28 = some Try.f28 := by kernel_rfl
theorem md28 : (TT.an 28).mode = 0 := by kernel_rfl
theorem fi28 : FI.of Try.f28 (TT.an 28) = ⟨[.tmp 4], 15, [(0, [0, 1]), (1, [4])], []⟩ := by kernel_rfl
-- loop.example/g01121/spec.l00In
theorem fn29 : TT.fn 29 = some Try.f29 := by kernel_rfl
theorem md29 : (TT.an 29).mode = 1 := by kernel_rfl
theorem fi29 : FI.of Try.f29 (TT.an 29) = ⟨[.tmp 6], 15, [(0, [0, 1, 2]), (1, [6])], []⟩ := by kernel_rfl
-- loop.example/g01121/spec.l02Bits
theorem fn30 : TT.fn 30 = some Try.f30 := by kernel_rfl
theorem md30 : (TT.an 30).mode = 0 := by kernel_rfl
theorem fi30 : FI.of Try.f30 (TT.an 30) = ⟨[.tmp 6], 32, [(0, [0, 1, 2]), (1, [0, 1, 2, 7]), (2, [0, 1, 2, 7, 8]), (3, [0, 1, 2, 7, 8, 14]), (4, [0, 1, 2, 7, 8]), (5, [0, 2, 7, 8, 9, 10]), (6, [0, 2, 7, 8, 9]), (7, [0, 1, 2, 7, 8]), (8, [6])], []⟩ := by kernel_rfl
-- loop.example/g01121/impl.isRegisterState
theorem fn31 : TT.fn 31 = some Try.f31 := by kernel_rfl
theorem md31 : (TT.an 31).mode = 1 := by kernel_rfl
theorem fi31 : FI.of Try.f31 (TT.an 31) = ⟨[.tmp 4], 15, [(0, [1, 2]), (1, [4])], []⟩ := by kernel_rfl
-- loop.example/g01121/impl.inRange
theorem fn32 : TT.fn 32 = some Try.f32 := by kernel_rfl
theorem md32 : (TT.an 32).mode = 1 := by kernel_rfl
theorem fi32 : FI.of Try.f32 (TT.an 32) = ⟨[.tmp 6], 15, [(0, [0, 1, 2]), (1, [6])], []⟩ := by kernel_rfl
-- (loop.example/g01121/impl.Register).bits
theorem fn33 : TT.fn 33 = some Try.f33 := by kernel_rfl
theorem md33 : (TT.an 33).mode = 1 := by kernel_rfl
theorem fi33 : FI.of Try.f33 (TT.an 33) = ⟨[.tmp 6, .tmp 7], 27, [(0, [1, 2, 3]), (1, [1, 2, 3, 8]), (2, [1, 3, 8, 11, 12]), (3, [1, 3, 8, 11, 12, 13]), (4, [3, 8, 9, 10, 11, 12]), (5, [3, 8, 9, 11, 12]), (6, [1, 3, 8, 11, 12]), (7, [1, 3, 8, 11, 12]), (8, [6, 7])], []⟩ := by kernel_rfl
-- loop.example/g01121/spec.l08Shift
theorem fn34 : TT.fn 34 = some Try.f34 := by kernel_rfl
theorem md34 : (TT.an 34).mode = 1 := by kernel_rfl
theorem fi34 : FI.of Try.f34 (TT.an 34) = ⟨[.tmp 6], 23, [(0, [0, 1, 2]), (1, [0, 1, 2, 8]), (2, [6]), (3, [6])], []⟩ := by kernel_rfl
-- slices.Backward[[][2]int64,[2]int64]$1
theorem fn35 : TT.fn 35 = some Try.f35 := by kernel_rfl
theorem md35 : (TT.an 35).mode = 0 := by kernel_rfl
theorem fi35 : FI.of Try.f35 (TT.an 35) = ⟨[], 19, [(0, [0, 1, 3]), (1, [0, 1, 3, 8]), (2, [0, 1, 3]), (3, [0, 1, 3, 18])], []⟩ := by kernel_rfl
-- (*loop.example/g01121/spec.l00Src).next
theorem fn36 : TT.fn 36 = some Try.f36 := by kernel_rfl
theorem md36 : (TT.an 36).mode = 0 := by kernel_rfl
theorem fi36 : FI.of Try.f36 (TT.an 36) = ⟨[.tmp 2], 62, [(0, [0]), (1, [0, 3]), (2, [0, 3, 13]), (3, [0, 3]), (4, [0, 3]), (5, [0, 3]), (6, [0, 3, 53]), (7, [2]), (8, [2])], []⟩ := by kernel_rfl
-- slices.ContainsFunc[[]int64,int64]
theorem fn37 : TT.fn 37 = some Try.f37 := by kernel_rfl
theorem md37 : (TT.an 37).mode = 0 := by kernel_rfl
theorem fi37 : FI.of Try.f37 (TT.an 37) = ⟨[.tmp 4], 9, [(0, [0, 1]), (1, [4])], []⟩ := by kernel_rfl
-- loop.example/g01121/impl.allIn$1
theorem fn38 : TT.fn 38 = some Try.f38 := by kernel_rfl
theorem md38 : (TT.an 38).mode = 0 := by kernel_rfl
theorem fi38 : FI.of Try.f38 (TT.an 38) = ⟨[.tmp 4], 10, [(0, [0, 1, 2]), (1, [4])], []⟩ := by kernel_rfl
-- loop.example/g01121/spec.l02Is
theorem fn39 : TT.fn 39 = some Try.f39 := by kernel_rfl
theorem md39 : (TT.an 39).mode = 0 := by kernel_rfl
theorem fi39 : FI.of Try.f39 (TT.an 39) = ⟨[.tmp 2], 19, [(0, [0]), (1, [2])], []⟩ := by kernel_rfl
-- loop.example/g01121/spec.l02State
theorem fn40 : TT.fn 40 = some Try.f40 := by kernel_rfl
theorem md40 : (TT.an 40).mode = 1 := by kernel_rfl
theorem fi40 : FI.of Try.f40 (TT.an 40) = ⟨[.tmp 4], 11, [(0, [0, 1]), (1, [4])], []⟩ := by kernel_rfl
-- loop.example/g01121/spec.l02Step
theorem fn41 : TT.fn 41 = some Try.f41 := by kernel_rfl
theorem md41 : (TT.an 41).mode = 0 := by kernel_rfl
theorem fi41 : FI.of Try.f41 (TT.an 41) = ⟨[.tmp 4, .tmp 5], 30, [(0, [0, 1]), (1, [0, 1, 10]), (2, [4, 5]), (3, [4, 5])], [(3, [(12, 8)])]⟩ := by kernel_rfl
-- loop.example/g01121/impl.ValidRegister
theorem fn42 : TT.fn 42 = some Try.f42 := by kernel_rfl
theorem md42 : (TT.an 42).mode = 1 := by kernel_rfl
theorem fi42 : FI.of Try.f42 (TT.an 42) = ⟨[.tmp 2], 15, [(0, [1]), (1, [2])], []⟩ := by kernel_rfl
-- (loop.example/g01121/impl.Register).step
theorem fn43 : TT.fn 43 = some Try.f43 := by kernel_rfl
theorem md43 : (TT.an 43).mode = 1 := by kernel_rfl
theorem fi43 : FI.of Try.f43 (TT.an 43) = ⟨[.tmp 4, .tmp 5], 23, [(0, [1, 2]), (1, [1, 2, 8]), (2, [4, 5]), (3, [4, 5])], [(3, [(8, 6)])]⟩ := by kernel_rfl
-- (*strings.Builder).WriteByte
theorem fn44 : TT.fn 44 = some Try.f44 := by kernel_rfl
theorem md44 : (TT.an 44).mode = 0 := by kernel_rfl
theorem fi44 : FI.of Try.f44 (TT.an 44) = ⟨[.tmp 4], 17, [(0, [0, 1]), (1, [0, 1]), (2, []), (3, [4])], []⟩ := by kernel_rfl
-- loop.example/g01121/impl.bitText
theorem fn45 : TT.fn 45 = some Try.f45 := by kernel_rfl
theorem md45 : (TT.an 45).mode = 1 := by kernel_rfl
theorem fi45 : FI.of Try.f45 (TT.an 45) = ⟨[.tmp 2], 6, [(0, [0]), (1, [2])], []⟩ := by kernel_rfl
-- slices.IndexFunc[[]int64,int64]
theorem fn47 : TT.fn 47 = some Try.f47 := by kernel_rfl
theorem md47 : (TT.an 47).mode = 0 := by kernel_rfl
theorem fi47 : FI.of Try.f47 (TT.an 47) = ⟨[.tmp 4], 19, [(0, [0, 1]), (1, [0, 1, 7, 8]), (2, [0, 1, 7, 8, 9]), (3, [0, 1, 5, 7, 8]), (4, [0, 1, 5, 7, 8, 16]), (5, [4]), (6, [0, 1, 7, 8]), (7, [4])], []⟩ := by kernel_rfl
-- loop.example/g01121/spec.l02Parity
theorem fn48 : TT.fn 48 = some Try.f48 := by kernel_rfl
theorem md48 : (TT.an 48).mode = 1 := by kernel_rfl
theorem fi48 : FI.of Try.f48 (TT.an 48) = ⟨[.tmp 2], 13, [(0, [0]), (1, [0, 3]), (2, [0, 3, 5]), (3, [0, 3]), (4, [0, 3]), (5, [2])], []⟩ := by kernel_rfl
-- loop.example/g01121/impl.parity
theorem fn49 : TT.fn 49 = some Try.f49 := by kernel_rfl
theorem md49 : (TT.an 49).mode = 1 := by kernel_rfl
theorem fi49 : FI.of Try.f49 (TT.an 49) = ⟨[.tmp 2], 7, [(0, [0]), (1, [2])], []⟩ := by kernel_rfl
-- math/bits.OnesCount64
theorem fn51 : TT.fn 51 = some Try.f51 := by kernel_rfl
theorem md51 : (TT.an 51).mode = 1 := by kernel_rfl
theorem fi51 : FI.of Try.f51 (TT.an 51) = ⟨[.tmp 2], 35, [(0, [0]), (1, [0]), (2, [0]), (3, [0]), (4, [0]), (5, [0]), (6, [0]), (7, [2])], []⟩ := by kernel_rfl
theorem ty1 : TT.ty 1 = some ⟨.func, 1, 8, [.nilF]⟩ := by kernel_rfl
theorem ty2 : TT.ty 2 = some ⟨.int .i64, 1, 8, [.int .i64 0]⟩ := by kernel_rfl
theorem ty3 : TT.ty 3 = some ⟨.int .i64, 1, 8, [.int .i64 0]⟩ := by kernel_rfl
theorem ty4 : TT.ty 4 = some ⟨.bool, 1, 1, [.bool false]⟩ := by kernel_rfl
theorem ty5 : TT.ty 5 = some ⟨.int .u8, 1, 1, [.int .u8 0]⟩ := by kernel_rfl
theorem ty6 : TT.ty 6 = some ⟨.int .u8, 1, 1, [.int .u8 0]⟩ := by kernel_rfl
theorem ty7 : TT.ty 7 = some ⟨.struct [(2, 0), (3, 1), (4, 2), (6, 3)], 4, 24, [.int .i64 0, .int .i64 0, .bool false, .int .u8 0]⟩ := by kernel_rfl
theorem ty8 : TT.ty 8 = some ⟨.struct [(2, 0), (3, 1), (4, 2), (6, 3)], 4, 24, [.int .i64 0, .int .i64 0, .bool false, .int .u8 0]⟩ := by kernel_rfl
theorem ty9 : TT.ty 9 = some ⟨.string, 1, 16, [.str []]⟩ := by kernel_rfl
theorem ty10 : TT.ty 10 = some ⟨.string, 1, 16, [.str []]⟩ := by kernel_rfl
theorem ty11 : TT.ty 11 = some ⟨.string, 1, 16, [.str []]⟩ := by kernel_rfl
theorem ty12 : TT.ty 12 = some ⟨.int .u64, 1, 8, [.int .u64 0]⟩ := by kernel_rfl
theorem ty15 : TT.ty 15 = some ⟨.pointer, 1, 8, [.nilP]⟩ := by kernel_rfl
theorem ty16 : TT.ty 16 = some ⟨.pointer, 1, 8, [.nilP]⟩ := by kernel_rfl
theorem ty17 : TT.ty 17 = some ⟨.pointer, 1, 8, [.nilP]⟩ := by kernel_rfl
theorem ty20 : TT.ty 20 = some ⟨.iface, 1, 16, [.nilI]⟩ := by kernel_rfl
theorem ty21 : TT.ty 21 = some ⟨.int .i32, 1, 4, [.int .i32 0]⟩ := by kernel_rfl
theorem ty22 : TT.ty 22 = some ⟨.struct [(2, 0), (2, 1), (2, 2), (2, 3), (2, 4), (2, 5)], 6, 48, [.int .i64 0, .int .i64 0, .int .i64 0, .int .i64 0, .int .i64 0, .int .i64 0]⟩ := by kernel_rfl
theorem ty23 : TT.ty 23 = some ⟨.struct [(2, 0), (2, 1), (2, 2), (2, 3), (2, 4), (2, 5)], 6, 48, [.int .i64 0, .int .i64 0, .int .i64 0, .int .i64 0, .int .i64 0, .int .i64 0]⟩ := by kernel_rfl
theorem ty25 : TT.ty 25 = some ⟨.func, 1, 8, [.nilF]⟩ := by kernel_rfl
theorem ty26 : TT.ty 26 = some ⟨.struct [(2, 0), (2, 1), (2, 2), (2, 3), (2, 4), (2, 5)], 6, 48, [.int .i64 0, .int .i64 0, .int .i64 0, .int .i64 0, .int .i64 0, .int .i64 0]⟩ := by kernel_rfl
theorem ty27 : TT.ty 27 = some ⟨.func, 1, 8, [.nilF]⟩ := by kernel_rfl
theorem ty28 : TT.ty 28 = some ⟨.func, 1, 8, [.nilF]⟩ := by kernel_rfl
theorem ty29 : TT.ty 29 = some ⟨.slice 5, 1, 24, [.nilS]⟩ := by kernel_rfl
theorem ty30 : TT.ty 30 = some ⟨.func, 1, 8, [.nilF]⟩ := by kernel_rfl
theorem ty31 : TT.ty 31 = some ⟨.func, 1, 8, [.nilF]⟩ := by kernel_rfl
theorem ty32 : TT.ty 32 = some ⟨.func, 1, 8, [.nilF]⟩ := by kernel_rfl
theorem ty33 : TT.ty 33 = some ⟨.func, 1, 8, [.nilF]⟩ := by kernel_rfl
theorem ty34 : TT.ty 34 = some ⟨.func, 1, 8, [.nilF]⟩ := by kernel_rfl
theorem ty35 : TT.ty 35 = some ⟨.struct [(2, 0), (2, 1)], 2, 16, [.int .i64 0, .int .i64 0]⟩ := by kernel_rfl
theorem ty36 : TT.ty 36 = some ⟨.struct [(2, 0), (2, 1)], 2, 16, [.int .i64 0, .int .i64 0]⟩ := by kernel_rfl
theorem ty38 : TT.ty 38 = some ⟨.func, 1, 8, [.nilF]⟩ := by kernel_rfl
theorem ty39 : TT.ty 39 = some ⟨.struct [(2, 0), (2, 1)], 2, 16, [.int .i64 0, .int .i64 0]⟩ := by kernel_rfl
theorem ty40 : TT.ty 40 = some ⟨.func, 1, 8, [.nilF]⟩ := by kernel_rfl
theorem ty41 : TT.ty 41 = some ⟨.func, 1, 8, [.nilF]⟩ := by kernel_rfl
theorem ty42 : TT.ty 42 = some ⟨.func, 1, 8, [.nilF]⟩ := by kernel_rfl
theorem ty43 : TT.ty 43 = some ⟨.pointer, 1, 8, [.nilP]⟩ := by kernel_rfl
theorem ty44 : TT.ty 44 = some ⟨.func, 1, 8, [.nilF]⟩ := by kernel_rfl
theorem ty45 : TT.ty 45 = some ⟨.func, 1, 8, [.nilF]⟩ := by kernel_rfl
theorem ty46 : TT.ty 46 = some ⟨.func, 1, 8, [.nilF]⟩ := by kernel_rfl
theorem ty47 : TT.ty 47 = some ⟨.array 2 2, 2, 16, [.int .i64 0, .int .i64 0]⟩ := by kernel_rfl
theorem ty48 : TT.ty 48 = some ⟨.array 4 47, 8, 64, [.int .i64 0, .int .i64 0, .int .i64 0, .int .i64 0, .int .i64 0, .int .i64 0, .int .i64 0, .int .i64 0]⟩ := by kernel_rfl
theorem ty49 : TT.ty 49 = some ⟨.func, 1, 8, [.nilF]⟩ := by kernel_rfl
theorem ty50 : TT.ty 50 = some ⟨.func, 1, 8, [.nilF]⟩ := by kernel_rfl
theorem ty51 : TT.ty 51 = some ⟨.func, 1, 8, [.nilF]⟩ := by kernel_rfl
theorem ty52 : TT.ty 52 = some ⟨.func, 1, 8, [.nilF]⟩ := by kernel_rfl
theorem ty53 : TT.ty 53 = some ⟨.slice 47, 1, 24, [.nilS]⟩ := by kernel_rfl
theorem ty54 : TT.ty 54 = some ⟨.pointer, 1, 8, [.nilP]⟩ := by kernel_rfl
theorem ty55 : TT.ty 55 = some ⟨.func, 1, 8, [.nilF]⟩ := by kernel_rfl
theorem ty56 : TT.ty 56 = some ⟨.func, 1, 8, [.nilF]⟩ := by kernel_rfl
theorem ty57 : TT.ty 57 = some ⟨.func, 1, 8, [.nilF]⟩ := by kernel_rfl
theorem ty58 : TT.ty 58 = some ⟨.slice 2, 1, 24, [.nilS]⟩ := by kernel_rfl
theorem ty59 : TT.ty 59 = some ⟨.func, 1, 8, [.nilF]⟩ := by kernel_rfl
theorem ty60 : TT.ty 60 = some ⟨.pointer, 1, 8, [.nilP]⟩ := by kernel_rfl
theorem ty61 : TT.ty 61 = some ⟨.func, 1, 8, [.nilF]⟩ := by kernel_rfl
theorem ty62 : TT.ty 62 = some ⟨.func, 1, 8, [.nilF]⟩ := by kernel_rfl
theorem ty63 : TT.ty 63 = some ⟨.func, 1, 8, [.nilF]⟩ := by kernel_rfl
theorem ty65 : TT.ty 65 = some ⟨.func, 1, 8, [.nilF]⟩ := by kernel_rfl
theorem ty66 : TT.ty 66 = some ⟨.func, 1, 8, [.nilF]⟩ := by kernel_rfl
theorem ty67 : TT.ty 67 = some ⟨.int .u64, 1, 8, [.int .u64 0]⟩ := by kernel_rfl
theorem ty68 : TT.ty 68 = some ⟨.struct [(29, 0), (3, 1), (67, 2)], 3, 40, [.nilS, .int .i64 0, .int .u64 0]⟩ := by kernel_rfl
theorem ty69 : TT.ty 69 = some ⟨.struct [(29, 0), (3, 1), (67, 2)], 3, 40, [.nilS, .int .i64 0, .int .u64 0]⟩ := by kernel_rfl
theorem ty70 : TT.ty 70 = some ⟨.func, 1, 8, [.nilF]⟩ := by kernel_rfl
theorem ty71 : TT.ty 71 = some ⟨.func, 1, 8, [.nilF]⟩ := by kernel_rfl
theorem ty72 : TT.ty 72 = some ⟨.func, 1, 8, [.nilF]⟩ := by kernel_rfl
theorem ty73 : TT.ty 73 = some ⟨.func, 1, 8, [.nilF]⟩ := by kernel_rfl
theorem ty75 : TT.ty 75 = some ⟨.func, 1, 8, [.nilF]⟩ := by kernel_rfl
theorem ty76 : TT.ty 76 = some ⟨.func, 1, 8, [.nilF]⟩ := by kernel_rfl
theorem ty77 : TT.ty 77 = some ⟨.pointer, 1, 8, [.nilP]⟩ := by kernel_rfl
theorem ty78 : TT.ty 78 = some ⟨.struct [(77, 0), (29, 1)], 2, 32, [.nilP, .nilS]⟩ := by kernel_rfl
theorem ty79 : TT.ty 79 = some ⟨.struct [(77, 0), (29, 1)], 2, 32, [.nilP, .nilS]⟩ := by kernel_rfl
theorem ty80 : TT.ty 80 = some ⟨.func, 1, 8, [.nilF]⟩ := by kernel_rfl
theorem ty81 : TT.ty 81 = some ⟨.iface, 1, 16, [.nilI]⟩ := by kernel_rfl
theorem ty82 : TT.ty 82 = some ⟨.iface, 1, 16, [.nilI]⟩ := by kernel_rfl
theorem ty83 : TT.ty 83 = some ⟨.func, 1, 8, [.nilF]⟩ := by kernel_rfl
theorem ty84 : TT.ty 84 = some ⟨.func, 1, 8, [.nilF]⟩ := by kernel_rfl
theorem ty85 : TT.ty 85 = some ⟨.func, 1, 8, [.nilF]⟩ := by kernel_rfl
theorem ty86 : TT.ty 86 = some ⟨.int .u64, 1, 8, [.int .u64 0]⟩ := by kernel_rfl
theorem ty87 : TT.ty 87 = some ⟨.func, 1, 8, [.nilF]⟩ := by kernel_rfl
theorem ty88 : TT.ty 88 = some ⟨.pointer, 1, 8, [.nilP]⟩ := by kernel_rfl
theorem ty89 : TT.ty 89 = some ⟨.func, 1, 8, [.nilF]⟩ := by kernel_rfl
theorem ty90 : TT.ty 90 = some ⟨.other, 1, 8, [.nilP]⟩ := by kernel_rfl
theorem ty91 : TT.ty 91 = some ⟨.func, 1, 8, [.nilF]⟩ := by kernel_rfl
theorem ty94 : TT.ty 94 = some ⟨.array 0 16, 0, 0, []⟩ := by kernel_rfl
theorem ty97 : TT.ty 97 = some ⟨.func, 1, 8, [.nilF]⟩ := by kernel_rfl
theorem ty98 : TT.ty 98 = some ⟨.int .u32, 1, 4, [.int .u32 0]⟩ := by kernel_rfl
theorem ty99 : TT.ty 99 = some ⟨.int .u8, 1, 1, [.int .u8 0]⟩ := by kernel_rfl
theorem ty100 : TT.ty 100 = some ⟨.int .u8, 1, 1, [.int .u8 0]⟩ := by kernel_rfl
theorem ty101 : TT.ty 101 = some ⟨.func, 1, 8, [.nilF]⟩ := by kernel_rfl
theorem ty102 : TT.ty 102 = some ⟨.int .i32, 1, 4, [.int .i32 0]⟩ := by kernel_rfl
theorem ty103 : TT.ty 103 = some ⟨.int .i32, 1, 4, [.int .i32 0]⟩ := by kernel_rfl
end Go.Proofs.Ythkdbkjkccogfaa
