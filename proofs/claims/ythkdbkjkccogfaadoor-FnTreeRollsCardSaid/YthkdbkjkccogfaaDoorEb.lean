/- Contracts: parities. Nothing is claimed here; no condition. -/
import Derived.Test.YthkdbkjkccogfaaDoorEa
import Derived.Test.YthkdbkjkccogfaaDoorWx
namespace Go.Proofs.YthkdbkjkccogfaaDoor
open Go Go.Abs
set_option linter.unusedSimpArgs false
set_option linter.unusedVariables false
open Go.Wd
noncomputable def b112 : Code := Tryd.f112.body.getD .skip
noncomputable def B112_0 : Code := (bodyC (bodyC (fstC (sndC (sndC b112)))))
noncomputable def K112_0 : List It := .lp B112_0 :: .blk 0 :: .code (sndC (sndC (sndC b112))) :: []
theorem xl112_0 {fi : FI} {env : Env} {σ : St} : exI TT fi K112_0 env σ = exI TT fi (.code B112_0 :: K112_0) env σ := by unfold K112_0; exact xI_lp
noncomputable def R112_0_0 : List It := .code (sndC (sndC (sndC b112))) :: []
theorem eK112_0_0 : exitA 0 K112_0 = some R112_0_0 := rfl
theorem l112 (σ : St) : ∀ (k n out : Nat), n < 2 ^ k → k ≤ 63 → out < 2 →
    exI TT (FI.of Tryd.f112 (TT.an 112)) K112_0 [(0, .int .i64 n), (3, .int .i64 out)] σ = some (.int .i64 (xorN out (parF k n) : Nat), σ) := by
  intro k
  induction k with
  | zero =>
    intro n out hn hk ho
    obtain rfl : n = 0 := by simpa using hn
    have hx : xorN out (parF 0 0) = out := by simp [xorN, parF]
    rw [fi112]
    rw [xl112_0]
    simp only [B112_0, b112, Tryd.f112, Option.getD, fstC, sndC, bodyC, thnC, elsC]
    simp [xI_seq, xI_region, xI_ret, regA, regOps, runOps, opStep, wantedA, opA, evo, evos, calleeA, lk, nif_eq, putE, paramsE, valS, val2, keepE, restrict, finA, resA, binA, binInt, ofConst, ofConst1, loadA, TK.isAgg, asVar, unA, builtinA, lenOpA, lenA, ileb_cast, ileb_eq, ieqb_dec, indexAddrA, inB_dec, evPairs, storeA, AV.cellsOf, pairsOf, xI_nil, binBool, gcE, evOpt, tagZ, xI_block, xI_loopH, xI_condM, xI_exitM, xI_skip, xI_blk, exitA, ty2, eK112_0_0]
    simp only [R112_0_0, b112, Tryd.f112, Option.getD, fstC, sndC, bodyC, thnC, elsC]
    simp [xI_seq, xI_region, xI_ret, regA, regOps, runOps, opStep, wantedA, opA, evo, evos, calleeA, lk, nif_eq, putE, paramsE, valS, val2, keepE, restrict, finA, resA, binA, binInt, ofConst, ofConst1, loadA, TK.isAgg, asVar, unA, builtinA, lenOpA, lenA, ileb_cast, ileb_eq, ieqb_dec, indexAddrA, inB_dec, evPairs, storeA, AV.cellsOf, pairsOf, xI_nil, binBool, gcE, evOpt, tagZ, xI_block, xI_loopH, xI_condM, xI_exitM, xI_skip, xI_blk, exitA, ty2, eK112_0_0, hx]
  | succ k ih =>
    intro n out hn hk ho
    have h62 : 2 ^ (k + 1) ≤ 2 ^ 63 := Nat.pow_le_pow_right (by decide) hk
    have hn2 : n ≤ 9223372036854775807 := by omega
    by_cases h0 : n = 0
    · subst h0
      have hx : xorN out (parF (k + 1) 0) = out := by rw [parF_zero]; simp [xorN]
      rw [fi112]
      rw [xl112_0]
      simp only [B112_0, b112, Tryd.f112, Option.getD, fstC, sndC, bodyC, thnC, elsC]
      simp [xI_seq, xI_region, xI_ret, regA, regOps, runOps, opStep, wantedA, opA, evo, evos, calleeA, lk, nif_eq, putE, paramsE, valS, val2, keepE, restrict, finA, resA, binA, binInt, ofConst, ofConst1, loadA, TK.isAgg, asVar, unA, builtinA, lenOpA, lenA, ileb_cast, ileb_eq, ieqb_dec, indexAddrA, inB_dec, evPairs, storeA, AV.cellsOf, pairsOf, xI_nil, binBool, gcE, evOpt, tagZ, xI_block, xI_loopH, xI_condM, xI_exitM, xI_skip, xI_blk, exitA, ty2, eK112_0_0]
      simp only [R112_0_0, b112, Tryd.f112, Option.getD, fstC, sndC, bodyC, thnC, elsC]
      simp [xI_seq, xI_region, xI_ret, regA, regOps, runOps, opStep, wantedA, opA, evo, evos, calleeA, lk, nif_eq, putE, paramsE, valS, val2, keepE, restrict, finA, resA, binA, binInt, ofConst, ofConst1, loadA, TK.isAgg, asVar, unA, builtinA, lenOpA, lenA, ileb_cast, ileb_eq, ieqb_dec, indexAddrA, inB_dec, evPairs, storeA, AV.cellsOf, pairsOf, xI_nil, binBool, gcE, evOpt, tagZ, xI_block, xI_loopH, xI_condM, xI_exitM, xI_skip, xI_blk, exitA, ty2, eK112_0_0, hx]
    · have hm : modN n 2 < 2 := Nat.mod_lt _ (by decide)
      have hxl : xorN out (modN n 2) < 2 := Nat.xor_lt_two_pow (n := 1) ho hm
      have h1 := ih (shrN n 1) (xorN out (modN n 2)) (by show n / 2 ^ 1 < 2 ^ k; omega) (by omega) hxl
      have hx : xorN (xorN out (modN n 2)) (parF k (shrN n 1)) = xorN out (parF (k + 1) n) := by
        show (out ^^^ (n % 2)) ^^^ parF k (n / 2 ^ 1) = out ^^^ ((n % 2) ^^^ parF k (n / 2))
        rw [Nat.pow_one, Nat.xor_assoc]
      rw [hx] at h1
      have a1 := n_and1 hn2
      have a2 := n_xor (a := out) (b := modN n 2) (by omega) (by omega)
      have a3 : shrA (n : Int) (min 1 IntKind.i64.bits) = ((shrN n 1 : Nat) : Int) := rfl
      have hp : 0 < n := by omega
      rw [fi112] at h1 ⊢
      rw [xl112_0]
      simp only [B112_0, b112, Tryd.f112, Option.getD, fstC, sndC, bodyC, thnC, elsC]
      simp [xI_seq, xI_region, xI_ret, regA, regOps, runOps, opStep, wantedA, opA, evo, evos, calleeA, lk, nif_eq, putE, paramsE, valS, val2, keepE, restrict, finA, resA, binA, binInt, ofConst, ofConst1, loadA, TK.isAgg, asVar, unA, builtinA, lenOpA, lenA, ileb_cast, ileb_eq, ieqb_dec, indexAddrA, inB_dec, evPairs, storeA, AV.cellsOf, pairsOf, xI_nil, binBool, gcE, evOpt, tagZ, xI_block, xI_loopH, xI_condM, xI_exitM, xI_skip, xI_blk, exitA, ty2, eK112_0_0, a1, a2, a3, hp, h0]
      simpa using h1
theorem v112 (n : Nat) (hn : n < 2 ^ 63) : FnV TT 112 [.int .i64 n] (.int .i64 (par n : Nat)) := by
  refine FnV.mk fn112 rfl md112 ⟨⟨[], 0⟩, ?_⟩ (fun _ => rfl) rfl
  have h := l112 ⟨[], 0⟩ 63 n 0 hn (by decide) (by decide)
  rw [show xorN 0 (parF 63 n) = par n by rw [par_eq hn (by decide)]; simp [xorN]] at h
  rw [← h, fi112]
  simp [xI_seq, xI_region, xI_ret, regA, regOps, runOps, opStep, wantedA, opA, evo, evos, calleeA, lk, nif_eq, putE, paramsE, valS, val2, keepE, restrict, finA, resA, binA, binInt, ofConst, ofConst1, loadA, TK.isAgg, asVar, unA, builtinA, lenOpA, lenA, ileb_cast, ileb_eq, ieqb_dec, indexAddrA, inB_dec, evPairs, storeA, AV.cellsOf, pairsOf, xI_nil, binBool, gcE, evOpt, tagZ, xI_block, xI_loopH, xI_condM, xI_exitM, xI_skip, xI_blk, exitA, ty2, eK112_0_0]
  rfl

set_option maxHeartbeats 1000000 in
theorem v161 (x : Nat) (hx : x < 65536) : FnV TT 161 [.int .u64 x] (.int .i64 (pc x : Nat)) := by
  refine FnV.mk fn161 rfl md161 ⟨⟨[], 0⟩, ?_⟩ (fun _ => rfl) rfl
  obtain ⟨a, ha⟩ : ∃ a, a = addN (andN (shrN x 1) 6148914691236517205) (andN x 6148914691236517205) := ⟨_, rfl⟩
  obtain ⟨b, hb⟩ : ∃ b, b = addN (andN (shrN a 2) 3689348814741910323) (andN a 3689348814741910323) := ⟨_, rfl⟩
  obtain ⟨c, hc⟩ : ∃ c, c = andN (addN (shrN b 4) b) 1085102592571150095 := ⟨_, rfl⟩
  obtain ⟨d, hd⟩ : ∃ d, d = addN c (shrN c 8) := ⟨_, rfl⟩
  obtain ⟨e, he⟩ : ∃ e, e = addN d (shrN d 16) := ⟨_, rfl⟩
  obtain ⟨k, hk⟩ : ∃ k, k = addN e (shrN e 32) := ⟨_, rfl⟩
  have hpc : pc x = andN k 127 := by
    subst hk he hd hc hb ha; rfl
  have q1 : andN (shrN x 1) 6148914691236517205 ≤ x / 2 ^ 1 := Nat.and_le_left
  have q2 : andN x 6148914691236517205 ≤ x := Nat.and_le_left
  have ea : a = andN (shrN x 1) 6148914691236517205 + andN x 6148914691236517205 := ha
  have q3 : andN (shrN a 2) 3689348814741910323 ≤ a / 2 ^ 2 := Nat.and_le_left
  have q4 : andN a 3689348814741910323 ≤ a := Nat.and_le_left
  have eb : b = andN (shrN a 2) 3689348814741910323 + andN a 3689348814741910323 := hb
  have q5 : c ≤ addN (shrN b 4) b := by rw [hc]; exact Nat.and_le_left
  have q5' : addN (shrN b 4) b = b / 2 ^ 4 + b := rfl
  have q6 : d = c + c / 2 ^ 8 := hd
  have q7 : e = d + d / 2 ^ 16 := he
  have q8 : k = e + e / 2 ^ 32 := hk
  have a1 : shrA (x : Int) (min 1 IntKind.u64.bits) = ((shrN x 1 : Nat) : Int) := rfl
  have a2 : bitsA .and .u64 ((shrN x 1 : Nat) : Int) 6148914691236517205 = some (.int .u64 ((andN (shrN x 1) 6148914691236517205 : Nat) : Int)) := w_and .u64 (a := shrN x 1) (b := 6148914691236517205) (by show x / 2 ^ 1 ≤ _; simp only [topOf]; omega) (by decide)
  have a3 : bitsA .and .u64 (x : Int) 6148914691236517205 = some (.int .u64 ((andN x 6148914691236517205 : Nat) : Int)) := w_and .u64 (a := x) (b := 6148914691236517205) (by simp only [topOf]; omega) (by decide)
  have a4 : wrapA .u64 (((andN (shrN x 1) 6148914691236517205 : Nat) : Int) + ((andN x 6148914691236517205 : Nat) : Int)) = (a : Int) := by
    rw [ea, ← Int.natCast_add]; exact n_wrapu (by omega)
  have b1 : shrA (a : Int) (min 2 IntKind.u64.bits) = ((shrN a 2 : Nat) : Int) := rfl
  have b2 : bitsA .and .u64 ((shrN a 2 : Nat) : Int) 3689348814741910323 = some (.int .u64 ((andN (shrN a 2) 3689348814741910323 : Nat) : Int)) := w_and .u64 (a := shrN a 2) (b := 3689348814741910323) (by show a / 2 ^ 2 ≤ _; simp only [topOf]; omega) (by decide)
  have b3 : bitsA .and .u64 (a : Int) 3689348814741910323 = some (.int .u64 ((andN a 3689348814741910323 : Nat) : Int)) := w_and .u64 (a := a) (b := 3689348814741910323) (by simp only [topOf]; omega) (by decide)
  have b4 : wrapA .u64 (((andN (shrN a 2) 3689348814741910323 : Nat) : Int) + ((andN a 3689348814741910323 : Nat) : Int)) = (b : Int) := by
    rw [eb, ← Int.natCast_add]; exact n_wrapu (by omega)
  have c1 : shrA (b : Int) (min 4 IntKind.u64.bits) = ((shrN b 4 : Nat) : Int) := rfl
  have c2 : wrapA .u64 (((shrN b 4 : Nat) : Int) + (b : Int)) = ((addN (shrN b 4) b : Nat) : Int) := by
    rw [← Int.natCast_add]; exact n_wrapu (by show b / 2 ^ 4 + b ≤ _; omega)
  have c3 : bitsA .and .u64 ((addN (shrN b 4) b : Nat) : Int) 1085102592571150095 = some (.int .u64 (c : Int)) := by
    rw [hc]; exact w_and .u64 (a := addN (shrN b 4) b) (b := 1085102592571150095) (by rw [q5']; simp only [topOf]; omega) (by decide)
  have d1 : shrA (c : Int) (min 8 IntKind.u64.bits) = ((shrN c 8 : Nat) : Int) := rfl
  have d2 : wrapA .u64 ((c : Int) + ((shrN c 8 : Nat) : Int)) = (d : Int) := by
    rw [← Int.natCast_add, hd]; exact n_wrapu (by show c + c / 2 ^ 8 ≤ _; omega)
  have e1 : shrA (d : Int) (min 16 IntKind.u64.bits) = ((shrN d 16 : Nat) : Int) := rfl
  have e2 : wrapA .u64 ((d : Int) + ((shrN d 16 : Nat) : Int)) = (e : Int) := by
    rw [← Int.natCast_add, he]; exact n_wrapu (by show d + d / 2 ^ 16 ≤ _; omega)
  have k1 : shrA (e : Int) (min 32 IntKind.u64.bits) = ((shrN e 32 : Nat) : Int) := rfl
  have k2 : wrapA .u64 ((e : Int) + ((shrN e 32 : Nat) : Int)) = (k : Int) := by
    rw [← Int.natCast_add, hk]; exact n_wrapu (by show e + e / 2 ^ 32 ≤ _; omega)
  have k3 : wrapA .i64 (k : Int) = (k : Int) := n_wrap (by omega)
  have k4 : bitsA .and .i64 (k : Int) 127 = some (.int .i64 ((andN k 127 : Nat) : Int)) := w_and .i64 (a := k) (b := 127) (by simp only [topOf]; omega) (by decide)
  rw [hpc, fi161]
  clear ha hb hc hd he hk ea eb q5' q6 q7 q8
  simp [xI_seq, xI_region, xI_ret, regA, regOps, runOps, opStep, wantedA, opA, evo, evos, calleeA, lk, nif_eq, putE, paramsE, valS, val2, keepE, restrict, finA, resA, binA, binInt, ofConst, ofConst1, loadA, TK.isAgg, asVar, unA, builtinA, lenOpA, lenA, ileb_cast, ileb_eq, ieqb_dec, indexAddrA, inB_dec, evPairs, storeA, AV.cellsOf, pairsOf, xI_nil, binBool, gcE, evOpt, tagZ, xI_block, xI_loopH, xI_condM, xI_exitM, xI_skip, xI_blk, exitA, ty3, ty141, a1, a2, a3, a4, b1, b2, b3, b4, c1, c2, c3, d1, d2, e1, e2, k1, k2, k3, k4, convA]

theorem v126 (x : Nat) (hx : x < 65536) : FnV TT 126 [.int .i64 x] (.int .i64 (par x : Nat)) := by
  refine FnV.mk fn126 rfl md126 ⟨⟨[], 0⟩, ?_⟩ (fun _ => rfl) rfl
  have h1 : wrapA .u64 (x : Int) = (x : Int) := n_wrapu (by omega)
  have h2 : ∀ σ, callI TT 161 [.int .u64 x] σ = some (.int .i64 (pc x : Nat), σ) := fun σ => v161 x hx σ _ rfl
  have hb : pc x ≤ 127 := Nat.and_le_right
  have h3 : bitsA .and .i64 ((pc x : Nat) : Int) 1 = some (.int .i64 ((par x : Nat) : Int)) := by
    rw [← pc_par hx]; exact w_and .i64 (a := pc x) (b := 1) (by simp only [topOf]; omega) (by decide)
  rw [fi126]
  simp [xI_seq, xI_region, xI_ret, regA, regOps, runOps, opStep, wantedA, opA, evo, evos, calleeA, lk, nif_eq, putE, paramsE, valS, val2, keepE, restrict, finA, resA, binA, binInt, ofConst, ofConst1, loadA, TK.isAgg, asVar, unA, builtinA, lenOpA, lenA, ileb_cast, ileb_eq, ieqb_dec, indexAddrA, inB_dec, evPairs, storeA, AV.cellsOf, pairsOf, xI_nil, binBool, gcE, evOpt, tagZ, xI_block, xI_loopH, xI_condM, xI_exitM, xI_skip, xI_blk, exitA, ty2, ty3, ty141, h1, h2, h3, convA]
theorem c126 (x : Nat) (hx : x < 65536) (σ : St) : callI TT 126 [.int .i64 x] σ = some (.int .i64 (par x : Nat), σ) := v126 x hx σ _ rfl

end Go.Proofs.YthkdbkjkccogfaaDoor
