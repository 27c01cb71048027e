/- Facts on the tables of this seat. Nothing is claimed here; no condition. -/
import Derived.Test.YtcghfhlmhmnioaaAbsW
import Derived.Test.YtcghfhlmhmnioaaTab
namespace Go.Proofs.Ytcghfhlmhmnioaa
open Go Go.Abs
-- loop.example/g01121/laws.FnExactValidTemper
theorem fn3 : TT.fn 3 = some Try.f3 := by kernel_rfl
theorem md3 : (TT.an 3).mode = 1 := by kernel_rfl
theorem fi3 : FI.of Try.f3 (TT.an 3) = ⟨[.tmp 2], 14, [(0, [1]), (1, [1, 3]), (2, [3, 4]), (3, [13]), (4, [2]), (5, [2])], []⟩ := by kernel_rfl
-- loop.example/g01121/laws.FnExactTemperWord
theorem fn6 : TT.fn 6 = some Try.f6 := by kernel_rfl
theorem md6 : (TT.an 6).mode = 1 := by kernel_rfl
theorem fi6 : FI.of Try.f6 (TT.an 6) = ⟨[.tmp 4], 31, [(0, [1, 2]), (1, [1, 2, 5, 6]), (2, [5, 6, 7, 8]), (3, [30]), (4, [4]), (5, [4])], []⟩ := by kernel_rfl
-- loop.example/g01121/spec.ValidTemper
theorem fn7 : TT.fn 7 = some Try.f7 := by kernel_rfl
theorem md7 : (TT.an 7).mode = 1 := by kernel_rfl
theorem fi7 : FI.of Try.f7 (TT.an 7) = ⟨[.tmp 2], 4, [(0, [1]), (1, [2])], []⟩ := by kernel_rfl
-- loop.example/g01121/laws.toTemper
theorem fn8 : TT.fn 8 = some Try.f8 := by kernel_rfl
theorem md8 : (TT.an 8).mode = 1 := by kernel_rfl
theorem fi8 : FI.of Try.f8 (TT.an 8) = ⟨[.cell 2 25], 23, [(0, [1, 2]), (1, [1, 2, 3]), (2, [1, 2, 3]), (3, [1, 2, 3]), (4, [1, 2, 3]), (5, [1, 2, 3]), (6, [1, 2, 3]), (7, [2, 3]), (8, [2])], []⟩ := by kernel_rfl
-- loop.example/g01121/impl.ValidTemper
theorem fn9 : TT.fn 9 = some Try.f9 := by kernel_rfl
theorem md9 : (TT.an 9).mode = 1 := by kernel_rfl
theorem fi9 : FI.of Try.f9 (TT.an 9) = ⟨[.tmp 2], 21, [(0, [1]), (1, [2])], []⟩ := by kernel_rfl
-- loop.example/g01121/spec.TemperWord
theorem fn14 : TT.fn 14 = some Try.f14 := by kernel_rfl
theorem md14 : (TT.an 14).mode = 1 := by kernel_rfl
theorem fi14 : FI.of Try.f14 (TT.an 14) = ⟨[.tmp 4, .tmp 5], 48, [(0, [1, 2]), (1, [1, 2, 12]), (2, [4, 5]), (3, [1, 2]), (4, [1, 2]), (5, [1, 2]), (6, [1]), (7, [4, 5])], []⟩ := by kernel_rfl
-- loop.example/g01121/impl.TemperWord
theorem fn15 : TT.fn 15 = some Try.f15 := by kernel_rfl
theorem md15 : (TT.an 15).mode = 1 := by kernel_rfl
theorem fi15 : FI.of Try.f15 (TT.an 15) = ⟨[.tmp 4, .tmp 5], 27, [(0, [1, 2]), (1, [1, 2, 11]), (2, [4, 5]), (3, [1, 13, 14]), (4, [1, 13, 14, 15]), (5, [1, 7, 13, 14]), (6, [1, 13, 14]), (7, [1, 13, 14]), (8, [4, 5])], []⟩ := by kernel_rfl
-- loop.example/g01121/spec.l08Temper
theorem fn16 : TT.fn 16 = some Try.f16 := by kernel_rfl
theorem md16 : (TT.an 16).mode = 0 := by kernel_rfl
theorem fi16 : FI.of Try.f16 (TT.an 16) = ⟨[.tmp 2], 43, [(0, [0]), (1, [2])], []⟩ := by kernel_rfl
-- loop.example/g01121/impl.allIn
theorem fn17 : TT.fn 17 = some Try.f17 := by kernel_rfl
theorem md17 : (TT.an 17).mode = 1 := by kernel_rfl
theorem fi17 : FI.of Try.f17 (TT.an 17) = ⟨[.tmp 6], 11, [(0, [0, 4, 5]), (1, [6])], []⟩ := by kernel_rfl
-- loop.example/g01121/spec.l00In
theorem fn19 : TT.fn 19 = some Try.f19 := by kernel_rfl
theorem md19 : (TT.an 19).mode = 1 := by kernel_rfl
theorem fi19 : FI.of Try.f19 (TT.an 19) = ⟨[.tmp 6], 15, [(0, [0, 1, 2]), (1, [6])], []⟩ := by kernel_rfl
-- loop.example/g01121/impl.inRange
theorem fn21 : TT.fn 21 = some Try.f21 := by kernel_rfl
theorem md21 : (TT.an 21).mode = 1 := by kernel_rfl
theorem fi21 : FI.of Try.f21 (TT.an 21) = ⟨[.tmp 6], 15, [(0, [0, 1, 2]), (1, [6])], []⟩ := by kernel_rfl
-- loop.example/g01121/spec.l08Word
theorem fn24 : TT.fn 24 = some Try.f24 := by kernel_rfl
theorem md24 : (TT.an 24).mode = 1 := by kernel_rfl
theorem fi24 : FI.of Try.f24 (TT.an 24) = ⟨[.tmp 2], 5, [(0, [0]), (1, [2])], []⟩ := by kernel_rfl
-- loop.example/g01121/impl.isWord
theorem fn25 : TT.fn 25 = some Try.f25 := by kernel_rfl
theorem md25 : (TT.an 25).mode = 1 := by kernel_rfl
theorem fi25 : FI.of Try.f25 (TT.an 25) = ⟨[.tmp 4], 11, [(0, [1, 2]), (1, [4])], []⟩ := by kernel_rfl
-- (loop.example/g01121/impl.Temper).moves
theorem fn26 : TT.fn 26 = some Try.f26 := by kernel_rfl
theorem md26 : (TT.an 26).mode = 1 := by kernel_rfl
theorem fi26 : FI.of Try.f26 (TT.an 26) = ⟨[.cell 2 43], 22, [(0, [1, 2]), (1, [2])], []⟩ := by kernel_rfl
-- loop.example/g01121/impl.moved
theorem fn27 : TT.fn 27 = some Try.f27 := by kernel_rfl
theorem md27 : (TT.an 27).mode = 1 := by kernel_rfl
theorem fi27 : FI.of Try.f27 (TT.an 27) = ⟨[.tmp 6], 21, [(0, [0, 1, 2]), (1, [0, 1, 2, 8]), (2, [6]), (3, [6])], []⟩ := by kernel_rfl
-- slices.ContainsFunc[[]int64,int64]
theorem fn28 : TT.fn 28 = some Try.f28 := by kernel_rfl
theorem md28 : (TT.an 28).mode = 0 := by kernel_rfl
theorem fi28 : FI.of Try.f28 (TT.an 28) = ⟨[.tmp 4], 9, [(0, [0, 1]), (1, [4])], []⟩ := by kernel_rfl
-- loop.example/g01121/impl.allIn$1
theorem fn29 : TT.fn 29 = some Try.f29 := by kernel_rfl
theorem md29 : (TT.an 29).mode = 0 := by kernel_rfl
theorem fi29 : FI.of Try.f29 (TT.an 29) = ⟨[.tmp 4], 10, [(0, [0, 1, 2]), (1, [4])], []⟩ := by kernel_rfl
-- slices.IndexFunc[[]int64,int64]
theorem fn30 : TT.fn 30 = some Try.f30 := by kernel_rfl
theorem md30 : (TT.an 30).mode = 0 := by kernel_rfl
theorem fi30 : FI.of Try.f30 (TT.an 30) = ⟨[.tmp 4], 19, [(0, [0, 1]), (1, [0, 1, 7, 8]), (2, [0, 1, 7, 8, 9]), (3, [0, 1, 5, 7, 8]), (4, [0, 1, 5, 7, 8, 16]), (5, [4]), (6, [0, 1, 7, 8]), (7, [4])], []⟩ := by kernel_rfl
theorem ty1 : TT.ty 1 = some ⟨.func, 1, 8, [.nilF]⟩ := by kernel_rfl
theorem ty2 : TT.ty 2 = some ⟨.int .i64, 1, 8, [.int .i64 0]⟩ := by kernel_rfl
theorem ty3 : TT.ty 3 = some ⟨.int .i64, 1, 8, [.int .i64 0]⟩ := by kernel_rfl
theorem ty4 : TT.ty 4 = some ⟨.bool, 1, 1, [.bool false]⟩ := by kernel_rfl
theorem ty5 : TT.ty 5 = some ⟨.int .u8, 1, 1, [.int .u8 0]⟩ := by kernel_rfl
theorem ty6 : TT.ty 6 = some ⟨.int .u8, 1, 1, [.int .u8 0]⟩ := by kernel_rfl
theorem ty7 : TT.ty 7 = some ⟨.struct [(2, 0), (3, 1), (4, 2), (6, 3)], 4, 24, [.int .i64 0, .int .i64 0, .bool false, .int .u8 0]⟩ := by kernel_rfl
theorem ty8 : TT.ty 8 = some ⟨.struct [(2, 0), (3, 1), (4, 2), (6, 3)], 4, 24, [.int .i64 0, .int .i64 0, .bool false, .int .u8 0]⟩ := by kernel_rfl
theorem ty9 : TT.ty 9 = some ⟨.string, 1, 16, [.str []]⟩ := by kernel_rfl
theorem ty10 : TT.ty 10 = some ⟨.string, 1, 16, [.str []]⟩ := by kernel_rfl
theorem ty11 : TT.ty 11 = some ⟨.string, 1, 16, [.str []]⟩ := by kernel_rfl
theorem ty12 : TT.ty 12 = some ⟨.int .u64, 1, 8, [.int .u64 0]⟩ := by kernel_rfl
theorem ty13 : TT.ty 13 = some ⟨.struct [(9, 0), (12, 1)], 2, 24, [.str [], .int .u64 0]⟩ := by kernel_rfl
theorem ty14 : TT.ty 14 = some ⟨.struct [(9, 0), (12, 1)], 2, 24, [.str [], .int .u64 0]⟩ := by kernel_rfl
theorem ty15 : TT.ty 15 = some ⟨.pointer, 1, 8, [.nilP]⟩ := by kernel_rfl
theorem ty16 : TT.ty 16 = some ⟨.pointer, 1, 8, [.nilP]⟩ := by kernel_rfl
theorem ty17 : TT.ty 17 = some ⟨.pointer, 1, 8, [.nilP]⟩ := by kernel_rfl
theorem ty18 : TT.ty 18 = some ⟨.struct [(17, 0)], 1, 8, [.nilP]⟩ := by kernel_rfl
theorem ty19 : TT.ty 19 = some ⟨.struct [(17, 0)], 1, 8, [.nilP]⟩ := by kernel_rfl
theorem ty20 : TT.ty 20 = some ⟨.iface, 1, 16, [.nilI]⟩ := by kernel_rfl
theorem ty21 : TT.ty 21 = some ⟨.int .i32, 1, 4, [.int .i32 0]⟩ := by kernel_rfl
theorem ty22 : TT.ty 22 = some ⟨.struct [(2, 0), (2, 1), (2, 2), (2, 3), (2, 4), (2, 5)], 6, 48, [.int .i64 0, .int .i64 0, .int .i64 0, .int .i64 0, .int .i64 0, .int .i64 0]⟩ := by kernel_rfl
theorem ty23 : TT.ty 23 = some ⟨.struct [(2, 0), (2, 1), (2, 2), (2, 3), (2, 4), (2, 5)], 6, 48, [.int .i64 0, .int .i64 0, .int .i64 0, .int .i64 0, .int .i64 0, .int .i64 0]⟩ := by kernel_rfl
theorem ty24 : TT.ty 24 = some ⟨.func, 1, 8, [.nilF]⟩ := by kernel_rfl
theorem ty25 : TT.ty 25 = some ⟨.struct [(2, 0), (2, 1), (2, 2), (2, 3), (2, 4), (2, 5)], 6, 48, [.int .i64 0, .int .i64 0, .int .i64 0, .int .i64 0, .int .i64 0, .int .i64 0]⟩ := by kernel_rfl
theorem ty26 : TT.ty 26 = some ⟨.func, 1, 8, [.nilF]⟩ := by kernel_rfl
theorem ty27 : TT.ty 27 = some ⟨.func, 1, 8, [.nilF]⟩ := by kernel_rfl
theorem ty29 : TT.ty 29 = some ⟨.func, 1, 8, [.nilF]⟩ := by kernel_rfl
theorem ty30 : TT.ty 30 = some ⟨.func, 1, 8, [.nilF]⟩ := by kernel_rfl
theorem ty31 : TT.ty 31 = some ⟨.func, 1, 8, [.nilF]⟩ := by kernel_rfl
theorem ty32 : TT.ty 32 = some ⟨.func, 1, 8, [.nilF]⟩ := by kernel_rfl
theorem ty33 : TT.ty 33 = some ⟨.func, 1, 8, [.nilF]⟩ := by kernel_rfl
theorem ty34 : TT.ty 34 = some ⟨.pointer, 1, 8, [.nilP]⟩ := by kernel_rfl
theorem ty35 : TT.ty 35 = some ⟨.func, 1, 8, [.nilF]⟩ := by kernel_rfl
theorem ty36 : TT.ty 36 = some ⟨.slice 2, 1, 24, [.nilS]⟩ := by kernel_rfl
theorem ty37 : TT.ty 37 = some ⟨.func, 1, 8, [.nilF]⟩ := by kernel_rfl
theorem ty38 : TT.ty 38 = some ⟨.func, 1, 8, [.nilF]⟩ := by kernel_rfl
theorem ty39 : TT.ty 39 = some ⟨.func, 1, 8, [.nilF]⟩ := by kernel_rfl
theorem ty40 : TT.ty 40 = some ⟨.int .u64, 1, 8, [.int .u64 0]⟩ := by kernel_rfl
theorem ty41 : TT.ty 41 = some ⟨.func, 1, 8, [.nilF]⟩ := by kernel_rfl
theorem ty42 : TT.ty 42 = some ⟨.array 2 2, 2, 16, [.int .i64 0, .int .i64 0]⟩ := by kernel_rfl
theorem ty43 : TT.ty 43 = some ⟨.array 4 42, 8, 64, [.int .i64 0, .int .i64 0, .int .i64 0, .int .i64 0, .int .i64 0, .int .i64 0, .int .i64 0, .int .i64 0]⟩ := by kernel_rfl
theorem ty44 : TT.ty 44 = some ⟨.func, 1, 8, [.nilF]⟩ := by kernel_rfl
theorem ty45 : TT.ty 45 = some ⟨.func, 1, 8, [.nilF]⟩ := by kernel_rfl
theorem ty46 : TT.ty 46 = some ⟨.func, 1, 8, [.nilF]⟩ := by kernel_rfl
theorem ty47 : TT.ty 47 = some ⟨.func, 1, 8, [.nilF]⟩ := by kernel_rfl
theorem ty48 : TT.ty 48 = some ⟨.func, 1, 8, [.nilF]⟩ := by kernel_rfl
theorem ty49 : TT.ty 49 = some ⟨.struct [(17, 0), (17, 1), (17, 2), (9, 3)], 4, 40, [.nilP, .nilP, .nilP, .str []]⟩ := by kernel_rfl
theorem ty50 : TT.ty 50 = some ⟨.struct [(17, 0), (17, 1), (17, 2), (9, 3)], 4, 40, [.nilP, .nilP, .nilP, .str []]⟩ := by kernel_rfl
theorem ty51 : TT.ty 51 = some ⟨.array 0 16, 0, 0, []⟩ := by kernel_rfl
theorem ty52 : TT.ty 52 = some ⟨.struct [(51, 0)], 0, 0, []⟩ := by kernel_rfl
theorem ty53 : TT.ty 53 = some ⟨.struct [(51, 0)], 0, 0, []⟩ := by kernel_rfl
theorem ty54 : TT.ty 54 = some ⟨.func, 1, 8, [.nilF]⟩ := by kernel_rfl
theorem ty55 : TT.ty 55 = some ⟨.int .u32, 1, 4, [.int .u32 0]⟩ := by kernel_rfl
theorem ty56 : TT.ty 56 = some ⟨.int .u8, 1, 1, [.int .u8 0]⟩ := by kernel_rfl
theorem ty57 : TT.ty 57 = some ⟨.int .u8, 1, 1, [.int .u8 0]⟩ := by kernel_rfl
theorem ty58 : TT.ty 58 = some ⟨.func, 1, 8, [.nilF]⟩ := by kernel_rfl
theorem ty59 : TT.ty 59 = some ⟨.pointer, 1, 8, [.nilP]⟩ := by kernel_rfl
theorem ty60 : TT.ty 60 = some ⟨.int .i32, 1, 4, [.int .i32 0]⟩ := by kernel_rfl
theorem ty61 : TT.ty 61 = some ⟨.int .i32, 1, 4, [.int .i32 0]⟩ := by kernel_rfl
theorem ty62 : TT.ty 62 = some ⟨.struct [(12, 0), (12, 1), (55, 2), (56, 3), (5, 4), (5, 5), (57, 6), (58, 7), (59, 8), (60, 9), (61, 10)], 11, 48, [.int .u64 0, .int .u64 0, .int .u32 0, .int .u8 0, .int .u8 0, .int .u8 0, .int .u8 0, .nilF, .nilP, .int .i32 0, .int .i32 0]⟩ := by kernel_rfl
theorem ty63 : TT.ty 63 = some ⟨.struct [(12, 0), (12, 1), (55, 2), (56, 3), (5, 4), (5, 5), (57, 6), (58, 7), (59, 8), (60, 9), (61, 10)], 11, 48, [.int .u64 0, .int .u64 0, .int .u32 0, .int .u8 0, .int .u8 0, .int .u8 0, .int .u8 0, .nilF, .nilP, .int .i32 0, .int .i32 0]⟩ := by kernel_rfl
theorem ty64 : TT.ty 64 = some ⟨.other, 1, 8, [.nilP]⟩ := by kernel_rfl
end Go.Proofs.Ytcghfhlmhmnioaa
