/- The law of words that come back. Nothing is claimed here; no condition. -/
import Derived.Test.YthkdbkjkccogfaaXi
namespace Go.Proofs.Ythkdbkjkccogfaa
open Go Go.Abs
set_option linter.unusedSimpArgs false
set_option linter.unusedVariables false
open Go.Wd
namespace TXF
theorem fn3 : TX.fn 3 = some Try.f3 := Go.Proofs.Ythkdbkjkccogfaa.fn3
theorem md3 : (TX.an 3).mode = 1 := Go.Proofs.Ythkdbkjkccogfaa.md3
theorem fi3 : FI.of Try.f3 (TX.an 3) = ⟨[.tmp 4], 31, [(0, [1, 2]), (1, [1, 2, 5, 6]), (2, [5, 6, 7, 8]), (3, [30]), (4, [4]), (5, [4])], []⟩ := Go.Proofs.Ythkdbkjkccogfaa.fi3
theorem ty2 : TX.ty 2 = some ⟨.int .i64, 1, 8, [.int .i64 0]⟩ := Go.Proofs.Ythkdbkjkccogfaa.ty2
theorem ty4 : TX.ty 4 = some ⟨.bool, 1, 1, [.bool false]⟩ := Go.Proofs.Ythkdbkjkccogfaa.ty4
theorem ty23 : TX.ty 23 = some ⟨.struct [(2, 0), (2, 1), (2, 2), (2, 3), (2, 4), (2, 5)], 6, 48, [.int .i64 0, .int .i64 0, .int .i64 0, .int .i64 0, .int .i64 0, .int .i64 0]⟩ := Go.Proofs.Ythkdbkjkccogfaa.ty23
theorem ty26 : TX.ty 26 = some ⟨.struct [(2, 0), (2, 1), (2, 2), (2, 3), (2, 4), (2, 5)], 6, 48, [.int .i64 0, .int .i64 0, .int .i64 0, .int .i64 0, .int .i64 0, .int .i64 0]⟩ := Go.Proofs.Ythkdbkjkccogfaa.ty26
theorem w3 (a b c d e f z : Int) : FnV TX 3 [.agg (tem a b c d e f), .int .i64 z] (.bool true) := by
  refine FnV.mk fn3 rfl md3 ?_ (fun _ => rfl) rfl
  rw [fi3]
  have hto : ∀ σ : St, callI TX 7 [.agg (tem a b c d e f)] σ = some (.agg (tem a b c d e f), σ) := fun σ => more (v7 a b c d e f σ _ rfl)
  have hS : ∀ σ : St, callI TX 6 [.agg (tem a b c d e f), .int .i64 z] σ = some (.tup [.int .i64 (uwI a b c d e f z), .bool (vword a b c d e f z)], σ) := fun σ => more (v6 a b c d e f z σ _ rfl)
  have hI : ∀ σ : St, callI TX 8 [.agg (tem a b c d e f), .int .i64 z] σ = some (.tup [.int .i64 (uwI a b c d e f z), .bool (vword a b c d e f z)], σ) := fun σ => cUW a b c d e f z σ
  generalize uwI a b c d e f z = u at *
  generalize vword a b c d e f z = v at *
  simp only [tem] at hto hS hI ⊢
  cases v <;> simp [xI_seq, xI_region, xI_ret, regA, regOps, runOps, opStep, wantedA, opA, evo, evos, calleeA, lk, nif_eq, putE, paramsE, valS, val2, keepE, restrict, finA, resA, binA, binInt, ofConst, ofConst1, loadA, TK.isAgg, asVar, unA, builtinA, lenOpA, lenA, ileb_cast, ileb_eq, ieqb_dec, indexAddrA, inB_dec, evPairs, storeA, AV.cellsOf, pairsOf, xI_nil, binBool, gcE, evOpt, tagZ, xI_block, xI_loopH, xI_condM, xI_exitM, xI_skip, xI_blk, exitA, ty2, ty4, ty23, cellsAt, getCells, takeN, dropN, fieldAddrA, allOne, AV.one, n_push, storeCellsA, putN, overN, ty2, ty39, St.push, St.get, St.set, hget, hset, runTr, pairsOk, pairOk, lstAt, lastOf, sameVal, AV.eqv, eqvs, eqvs_ints, regOps, blt_dec, cond_true, cond_false, ty26, ty23, ty4, hto, hS, hI]
end TXF

end Go.Proofs.Ythkdbkjkccogfaa
