/- Numbers of any size, fractions, chances: contracts. Nothing is claimed here; no condition. -/
import Derived.Test.YtjecbjnckbihoaaDoorQb
set_option linter.unusedSimpArgs false
set_option linter.unusedVariables false
namespace Go.Proofs.YtjecbjnckbihoaaDoor
open Go Go.Abs Go.Nm
attribute [local simp] xI_seq xI_region xI_ret regA regOps runOps opStep wantedA opA evo evos calleeA lk nif_eq putE paramsE valS val2 keepE restrict finA resA binA binInt ofConst ofConst1 loadA TK.isAgg asVar unA builtinA lenOpA lenA indexAddrA evPairs storeA AV.cellsOf pairsOf xI_nil binBool gcE evOpt runTr pairsOk pairOk sameVal AV.eqv lastOf lstAt eqvs boundA indexA regF twoOf prsOf memI runTrF selF runTr2 freshOp scals AV.scal tagZ isI64 pureLd loadP boxP xI_block xI_loopH xI_condM xI_exitM xI_skip xI_blk exitA List.getElem?_cons_zero List.getElem?_cons_succ List.getElem?_toArray List.getElem?_nil ileb_t ileb_f ieqb_t ieqb_f inB_t wrapA_id lp_read ieqb_self Nat.blt_eq cond_true cond_false ty2 ty3 ty4 ty26 ty31 ty73
theorem add_h {M h l h' l' : Nat} (hab : h * M + l + (h' * M + l') < M * M) : h + h' < M ∧ ∀ L, l + l' = M + L → h + h' + 1 < M := by
  have e : ∀ x y : Nat, x * M + y < M * M → x < M := fun x y h => Nat.lt_of_mul_lt_mul_right (Nat.lt_of_le_of_lt (Nat.le_add_right _ _) h)
  refine ⟨e _ (l + l') (by rw [Nat.add_mul]; omega), fun L hL => e _ L (by rw [Nat.add_mul, Nat.add_mul]; omega)⟩
/-- A number of two words. -/
def W2 (n : Nat) : AV := .agg [.int .u64 ((n / 18446744073709551616 : Nat) : Int), .int .u64 ((n % 18446744073709551616 : Nat) : Int)]
theorem W2_of {h l : Nat} (hl : l < 18446744073709551616) : W2 (h * 18446744073709551616 + l) = .agg [.int .u64 (h : Int), .int .u64 (l : Int)] := by
  rw [W2, Nat.mul_comm, Nat.mul_add_div (by decide), Nat.mul_add_mod, Nat.div_eq_of_lt hl, Nat.mod_eq_of_lt hl, Nat.add_zero]
theorem W2_split (n : Nat) : ∃ h l, n = h * 18446744073709551616 + l ∧ l < 18446744073709551616 := ⟨n / 18446744073709551616, n % 18446744073709551616, by omega, by omega⟩
theorem W2_h {h l n : Nat} (hn : h * 18446744073709551616 + l < n * 18446744073709551616) : h < n := by
  rcases Nat.lt_or_ge h n with h1 | h1
  · exact h1
  · have := Nat.mul_le_mul_right 18446744073709551616 h1; omega

theorem dig_lt {M x y : Nat} (hx : x < M) (hy : y < M) : x * M + y < M * M := by
  have := Nat.mul_le_mul_right M (show x + 1 ≤ M from hx)
  rw [Nat.add_mul] at this; omega
theorem times_eq {a1 a0 b1 b0 l1 l0 o1 o0 t1 t0 m1 mm : Nat} (hl : a0 * b0 = l1 * 4294967296 + l0) (ho : a1 * b0 = o1 * 4294967296 + o0) (ht : a0 * b1 = t1 * 4294967296 + t0) (hm : l1 + o0 + t0 = m1 * 4294967296 + mm) : (a1 * 4294967296 + a0) * (b1 * 4294967296 + b0) = (a1 * b1 + o1 + t1 + m1) * 18446744073709551616 + (mm * 4294967296 + l0) := by
  have e : (a1 * 4294967296 + a0) * (b1 * 4294967296 + b0) = a1 * b1 * 18446744073709551616 + (a1 * b0 + a0 * b1) * 4294967296 + a0 * b0 := by
    simp only [Nat.add_mul, Nat.mul_add]
    have e1 : a1 * 4294967296 * (b1 * 4294967296) = a1 * b1 * 18446744073709551616 := by
      rw [Nat.mul_assoc, Nat.mul_left_comm 4294967296 b1, ← Nat.mul_assoc, show 4294967296 * 4294967296 = 18446744073709551616 from rfl]
    have e2 : a1 * 4294967296 * b0 = a1 * b0 * 4294967296 := by rw [Nat.mul_right_comm]
    have e3 : a0 * (b1 * 4294967296) = a0 * b1 * 4294967296 := by rw [Nat.mul_assoc]
    rw [e1, e2, e3]; omega
  rw [e, hl, ho, ht]; omega
theorem w64p {a b : Nat} (h : a * b ≤ 18446744073709551615) : wrapA .u64 ((a : Int) * (b : Int)) = ((a * b : Nat) : Int) := by rw [← Int.natCast_mul]; exact w64 h
theorem w64a {a b : Nat} (h : a + b ≤ 18446744073709551615) : wrapA .u64 ((a : Int) + (b : Int)) = ((a + b : Nat) : Int) := by rw [← Int.natCast_add]; exact w64 h
theorem nmod (a b : Nat) : (a : Int) % (b : Int) = ((a % b : Nat) : Int) := (Int.natCast_emod a b).symm
theorem ndiv (a b : Nat) : (a : Int) / (b : Int) = ((a / b : Nat) : Int) := (Int.natCast_ediv a b).symm
theorem tm32 {x q y : Nat} (h : x = q * 4294967296 + y) (hy : y < 4294967296) : (x : Int).tmod 4294967296 = (y : Int) := by
  have e : x % 4294967296 = y := by omega
  rw [← e]; rfl
theorem td32 {x q y : Nat} (h : x = q * 4294967296 + y) (hy : y < 4294967296) : (x : Int).tdiv 4294967296 = (q : Int) := by
  have e : x / 4294967296 = q := by omega
  rw [← e]; rfl
theorem sh_mid {t m1 mm : Nat} (em : t = m1 * 4294967296 + mm) (hmm : mm < 4294967296) : wrapA .u64 (shlA (t : Int) (min 32 IntKind.u64.bits)) = ((mm * 4294967296 : Nat) : Int) := by
  rw [shlU32, wrapA_eq]
  have : t * 4294967296 = m1 * 18446744073709551616 + mm * 4294967296 := by omega
  rw [this]
  simp [IntKind.wrap, IntKind.bits, IntKind.signed]; omega
theorem small_mul {a b : Nat} (ha : a < 4294967296) (hb : b < 4294967296) : a * b ≤ 18446744065119617025 := by
  have := Nat.mul_le_mul (show a ≤ 4294967295 by omega) (show b ≤ 4294967295 by omega)
  exact this
theorem w64o {a b c : Nat} (ha : a < 18446744073709551616) (hb : b < 18446744073709551616) (h : a + b = 18446744073709551616 + c) : wrapA .u64 ((a : Int) + (b : Int)) = (c : Int) := by
  rw [wrapA_eq]; simp [IntKind.wrap, IntKind.bits, IntKind.signed]; omega
theorem w64u {a b c : Nat} (ha : a < 18446744073709551616) (hb : b < 18446744073709551616) (h : a + 18446744073709551616 = b + c) (hab : a < b) : wrapA .u64 ((a : Int) - (b : Int)) = (c : Int) := by
  rw [wrapA_eq]; simp [IntKind.wrap, IntKind.bits, IntKind.signed]; omega
theorem w64s {a b : Nat} (h : b ≤ a) (ha : a < 18446744073709551616) : wrapA .u64 ((a : Int) - (b : Int)) = ((a - b : Nat) : Int) := by
  rw [wrap64_id (by omega) (by omega)]; omega
theorem bit_lo {ah al i : Nat} (hi : i < 64) : (ah * 18446744073709551616 + al) / 2 ^ i % 2 = al / 2 ^ i % 2 := by
  have e : ah * 18446744073709551616 = 2 ^ i * (2 * (2 ^ (63 - i) * ah)) := by
    have h1 : (2 : Nat) ^ 64 = 2 ^ i * (2 * 2 ^ (63 - i)) := by
      rw [← Nat.mul_assoc, Nat.mul_comm (2 ^ i) 2, Nat.mul_assoc, ← Nat.pow_add, Nat.mul_comm 2, ← Nat.pow_succ]; congr 1; omega
    rw [show (18446744073709551616 : Nat) = 2 ^ 64 from rfl, h1, Nat.mul_comm ah, Nat.mul_assoc, Nat.mul_assoc]
  rw [e, Nat.mul_add_div (Nat.two_pow_pos i), Nat.mul_add_mod]
theorem bit_hi {ah al j : Nat} (hl : al < 18446744073709551616) : (ah * 18446744073709551616 + al) / 2 ^ (64 + j) = ah / 2 ^ j := by
  rw [Nat.pow_add, ← Nat.div_div_eq_div_mul, show (2 : Nat) ^ 64 = 18446744073709551616 from rfl, Nat.mul_comm ah, Nat.mul_add_div (by decide), Nat.div_eq_of_lt hl, Nat.add_zero]
theorem and_one {x : Nat} (h : x ≤ 18446744073709551615) : bitsA .and .u64 (x : Int) 1 = some (.int .u64 ((x % 2 : Nat) : Int)) := and_low64 x 1 h (by decide)
theorem or_one {x : Nat} (h : 2 * x ≤ 18446744073709551614) : bitsA .or .u64 ((2 * x : Nat) : Int) 1 = some (.int .u64 ((2 * x + 1 : Nat) : Int)) := by
  have h1 := w_or .u64 (a := 2 * x) (b := 1) (by simp only [topOf]; omega) (by decide)
  have h3 := Nat.two_pow_add_eq_or_of_lt (i := 1) (b := 1) (by decide) x
  rw [show (2 : Nat) ^ 1 * x = 2 * x from rfl] at h3
  rw [← h3] at h1; exact h1
theorem or_c {x c : Nat} (hc : c < 2) (h : x ≤ 9223372036854775807) : bitsA .or .u64 ((2 * x : Nat) : Int) (c : Int) = some (.int .u64 ((2 * x + c : Nat) : Int)) := by
  have h1 := w_or .u64 (a := 2 * x) (b := c) (by simp only [topOf]; omega) (by simp only [topOf]; omega)
  have h3 := Nat.two_pow_add_eq_or_of_lt (i := 1) (b := c) (by simpa using hc) x
  rw [show (2 : Nat) ^ 1 * x = 2 * x from rfl] at h3
  rw [← h3] at h1; exact h1
theorem dbl {qh ql c l2 : Nat} (h : ql = c * 9223372036854775808 + l2) : 2 * (qh * 18446744073709551616 + ql) = (2 * qh + c) * 18446744073709551616 + 2 * l2 := by omega
theorem ns_shl {q : Nat} (h : q ≤ 9223372036854775807) : wrapA .u64 (shlA (q : Int) (min 1 IntKind.u64.bits)) = ((2 * q : Nat) : Int) := by
  have : shlA (q : Int) (min 1 IntKind.u64.bits) = ((q * 2 : Nat) : Int) := rfl
  rw [this, Nat.mul_comm, w64 (by omega)]
theorem ns_shl2 {q c l2 : Nat} (h : q = c * 9223372036854775808 + l2) (hl : l2 < 9223372036854775808) (hc : c < 2) : wrapA .u64 (shlA (q : Int) (min 1 IntKind.u64.bits)) = ((2 * l2 : Nat) : Int) := by
  have : shlA (q : Int) (min 1 IntKind.u64.bits) = ((q * 2 : Nat) : Int) := rfl
  rw [this, wrapA_eq]
  simp [IntKind.wrap, IntKind.bits, IntKind.signed]; omega
theorem ns_shr {q c l2 : Nat} (h : q = c * 9223372036854775808 + l2) (hl : l2 < 9223372036854775808) : shrA (q : Int) (min 63 IntKind.u64.bits) = (c : Int) := by
  have e : shrA (q : Int) (min 63 IntKind.u64.bits) = ((q / 9223372036854775808 : Nat) : Int) := rfl
  rw [e]; congr 1; omega
theorem shr_n {x j : Nat} (hj : j < 64) : shrA (x : Int) (min j IntKind.u64.bits) = ((x / 2 ^ j : Nat) : Int) := by rw [Nat.min_eq_left (by simp [IntKind.bits]; omega)]; rfl
theorem div_le64 {x j : Nat} (h : x < 18446744073709551616) : x / 2 ^ j ≤ 18446744073709551615 := Nat.le_trans (Nat.div_le_self _ _) (by omega)
theorem q_bound {A q d rr i : Nat} (h : A / 2 ^ (i + 1) = q * d + rr) (hd : 0 < d) (hA : A < 18446744073709551616 * 18446744073709551616) : 2 * q < 18446744073709551616 * 18446744073709551616 := by
  have h1 : q ≤ q * d := Nat.le_mul_of_pos_right q hd
  have h2 : A / 2 ^ (i + 1) ≤ A / 2 := Nat.div_le_div_left (by rw [Nat.pow_succ]; have := Nat.two_pow_pos i; omega) (by decide)
  omega
theorem mk_parts (n : Int) {d : Nat} (hd : d ≠ 0) : (mkRat n d).num = n.tdiv ((Nat.gcd n.natAbs d : Nat) : Int) ∧ (mkRat n d).den = d / Nat.gcd n.natAbs d := by
  rw [Rat.num_mkRat, Rat.den_mkRat, if_neg hd, if_neg hd, Nat.gcd_comm]
  refine ⟨?_, rfl⟩
  rw [Int.tdiv_eq_ediv_of_dvd]
  exact Int.dvd_natAbs.1 (Int.natCast_dvd_natCast.2 (Nat.gcd_dvd_left _ _))
noncomputable def b55 : Code := Tryd.f55.body.getD .skip
noncomputable def B55_0 : Code := (bodyC (bodyC (fstC (sndC b55))))
noncomputable def K55_0 : List It := .lp B55_0 :: .blk 0 :: .code (sndC (sndC b55)) :: []
theorem xl55_0 {fi : FI} {env : Env} {σ : St} : exI TT fi K55_0 env σ = exI TT fi (.code B55_0 :: K55_0) env σ := by unfold K55_0; exact xI_lp
noncomputable def R55_0_0 : List It := .code (sndC (sndC b55)) :: []
theorem eK55_0_0 : exitA 0 K55_0 = some R55_0_0 := rfl
theorem st55 (a b c : Nat) (σ : St) (hb : 0 < b) (hc : (a : Int).tmod (b : Int) = (c : Int)) :
    exI TT (FI.of Tryd.f55 (TT.an 55)) K55_0 [(0, .int .i64 a), (1, .int .i64 b)] σ = exI TT (FI.of Tryd.f55 (TT.an 55)) K55_0 [(0, .int .i64 b), (1, .int .i64 c)] σ := by
  have hb2 : ¬ (b : Int) = 0 := by omega
  rw [fi55]
  conv => lhs; rw [xl55_0]
  simp only [B55_0, b55, Tryd.f55, Option.getD, fstC, sndC, bodyC, thnC, elsC]
  simp (maxSteps := 1000000) (disch := omega) [eK55_0_0, hc, hb2]
theorem en55 (a : Nat) (σ : St) : exI TT (FI.of Tryd.f55 (TT.an 55)) K55_0 [(0, .int .i64 a), (1, .int .i64 0)] σ = some (.int .i64 a, σ) := by
  rw [fi55, xl55_0]
  simp only [B55_0, b55, Tryd.f55, Option.getD, fstC, sndC, bodyC, thnC, elsC]
  simp (maxSteps := 1000000) (disch := omega) [eK55_0_0]
  simp only [R55_0_0, b55, Tryd.f55, Option.getD, fstC, sndC, bodyC, thnC, elsC]
  simp (maxSteps := 1000000) (disch := omega) [eK55_0_0]
theorem l55 (σ : St) : ∀ (b a : Nat), exI TT (FI.of Tryd.f55 (TT.an 55)) K55_0 [(0, .int .i64 a), (1, .int .i64 b)] σ = some (.int .i64 (Nat.gcd a b : Nat), σ) := by
  intro b
  induction b using Nat.strongRecOn with
  | ind b ih =>
    intro a
    rcases Nat.eq_zero_or_pos b with rfl | hpos
    · rw [Nat.gcd_zero_right]
      exact en55 _ σ
    · have h := ih (a % b) (Nat.mod_lt _ hpos) b
      rw [gcd_step a b hpos, ← h]
      exact st55 a b (a % b) σ hpos rfl
theorem v55 (a b : Nat) : FnV TT 55 [.int .i64 a, .int .i64 b] (.int .i64 (Nat.gcd a b : Nat)) := by
  have h := l55 ⟨[], 0⟩ b a
  refine FnV.mk fn55 rfl md55 ⟨⟨[], 0⟩, ?_⟩ (fun _ => rfl) rfl
  rw [← h, fi55]
  simp (maxSteps := 1000000) (disch := omega) [eK55_0_0]
  rfl

theorem v19 (n a b : Int) : FnV TT 19 [.int .i64 n, .int .i64 a, .int .i64 b] (.bool (decide (a ≤ n) && decide (n ≤ b))) := by
  refine FnV.mk (c := Tryd.f19.body.getD .skip) fn19 rfl md19 (ex1 ?_) (fun _ => rfl) rfl
  rw [fi19]
  simp only [Tryd.f19, Option.getD]
  by_cases h : a ≤ n
  · by_cases h2 : n ≤ b
    · rw [decide_eq_true h, decide_eq_true h2]
      simp (maxSteps := 1000000) (disch := omega) [cellsAt, getCells, takeN, dropN, fieldAddrA, allOne, AV.one, n_push, storeCellsA, putN, overN, St.push, St.get, St.set, hget, hset, blt_dec, buildA, sizesOf, fillA, putCells, List.take_succ_cons, List.take_zero, List.drop_succ_cons, List.drop_zero, List.nil_append, List.cons_append, List.length_cons, List.length_nil, eqvs_dgs]
    · rw [decide_eq_true h, decide_eq_false h2]
      simp (maxSteps := 1000000) (disch := omega) [cellsAt, getCells, takeN, dropN, fieldAddrA, allOne, AV.one, n_push, storeCellsA, putN, overN, St.push, St.get, St.set, hget, hset, blt_dec, buildA, sizesOf, fillA, putCells, List.take_succ_cons, List.take_zero, List.drop_succ_cons, List.drop_zero, List.nil_append, List.cons_append, List.length_cons, List.length_nil, eqvs_dgs]
  · rw [decide_eq_false h]
    simp (maxSteps := 1000000) (disch := omega) [cellsAt, getCells, takeN, dropN, fieldAddrA, allOne, AV.one, n_push, storeCellsA, putN, overN, St.push, St.get, St.set, hget, hset, blt_dec, buildA, sizesOf, fillA, putCells, List.take_succ_cons, List.take_zero, List.drop_succ_cons, List.drop_zero, List.nil_append, List.cons_append, List.length_cons, List.length_nil, eqvs_dgs]

set_option maxHeartbeats 4000000 in
theorem k40t (n d : Int) (m k : Nat) (c1 : ∀ σ, callI TT 19 [.int .i64 d, .int .i64 1, .int .i64 1000000000000000000] σ = some (.bool true, σ)) (c2 : ∀ σ, callI TT 19 [.int .i64 n, .int .i64 (-1000000000000000000), .int .i64 1000000000000000000] σ = some (.bool true, σ)) (c3 : ∀ σ, callI TT 31 [.int .i64 n] σ = some (.int .i64 m, σ)) (c4 : ∀ σ, callI TT 55 [.int .i64 m, .int .i64 d] σ = some (.int .i64 k, σ)) (q : Bool) (hk : decide ((k : Int) = 1) = q) :
    ∃ σ1, exI TT (FI.of Tryd.f40 (TT.an 40)) [.code (Tryd.f40.body.getD .skip)] (paramsE 0 [.agg [.int .i64 n, .int .i64 d]]) ⟨[], 0⟩ = some (.bool q, σ1) := by
  refine ex1 ?_
  rw [fi40]
  simp only [Tryd.f40, Option.getD]
  subst hk
  simp (maxSteps := 1000000) (disch := omega) [-ieqb_t, -ieqb_f, -ieqb_self, cellsAt, getCells, takeN, dropN, fieldAddrA, allOne, AV.one, n_push, storeCellsA, putN, overN, St.push, St.get, St.set, hget, hset, blt_dec, buildA, sizesOf, fillA, putCells, List.take_succ_cons, List.take_zero, List.drop_succ_cons, List.drop_zero, List.nil_append, List.cons_append, List.length_cons, List.length_nil, eqvs_dgs, c1, c2, c3, c4, ieqb_dec]
set_option maxHeartbeats 4000000 in
theorem k40f (n d : Int) (b1 b2 : Bool) (c1 : ∀ σ, callI TT 19 [.int .i64 d, .int .i64 1, .int .i64 1000000000000000000] σ = some (.bool b1, σ)) (c2 : ∀ σ, callI TT 19 [.int .i64 n, .int .i64 (-1000000000000000000), .int .i64 1000000000000000000] σ = some (.bool b2, σ)) (h : (b1 && b2) = false) :
    ∃ σ1, exI TT (FI.of Tryd.f40 (TT.an 40)) [.code (Tryd.f40.body.getD .skip)] (paramsE 0 [.agg [.int .i64 n, .int .i64 d]]) ⟨[], 0⟩ = some (.bool false, σ1) := by
  refine ex1 ?_
  rw [fi40]
  simp only [Tryd.f40, Option.getD]
  cases b1
  ·
    simp (maxSteps := 1000000) (disch := omega) [cellsAt, getCells, takeN, dropN, fieldAddrA, allOne, AV.one, n_push, storeCellsA, putN, overN, St.push, St.get, St.set, hget, hset, blt_dec, buildA, sizesOf, fillA, putCells, List.take_succ_cons, List.take_zero, List.drop_succ_cons, List.drop_zero, List.nil_append, List.cons_append, List.length_cons, List.length_nil, eqvs_dgs, c1, c2]
  · cases b2
    ·
      simp (maxSteps := 1000000) (disch := omega) [cellsAt, getCells, takeN, dropN, fieldAddrA, allOne, AV.one, n_push, storeCellsA, putN, overN, St.push, St.get, St.set, hget, hset, blt_dec, buildA, sizesOf, fillA, putCells, List.take_succ_cons, List.take_zero, List.drop_succ_cons, List.drop_zero, List.nil_append, List.cons_append, List.length_cons, List.length_nil, eqvs_dgs, c1, c2]
    · exact absurd h (by decide)
theorem v40 (n d : Int) : FnV TT 40 [.agg [.int .i64 n, .int .i64 d]] (.bool (vfr n d)) := by
  have c1 := fun σ : St => v19 d 1 1000000000000000000 σ [.int .i64 d, .int .i64 1, .int .i64 1000000000000000000] rfl
  have c2 := fun σ : St => v19 n (-1000000000000000000) 1000000000000000000 σ [.int .i64 n, .int .i64 (-1000000000000000000), .int .i64 1000000000000000000] rfl
  by_cases h1 : 1 ≤ d ∧ d ≤ 1000000000000000000 ∧ -1000000000000000000 ≤ n ∧ n ≤ 1000000000000000000
  · obtain ⟨h1, h2, h3, h4⟩ := h1
    have hd : d = ((d.toNat : Nat) : Int) := by omega
    have e : vfr n d = decide (((Nat.gcd n.natAbs d.toNat : Nat) : Int) = 1) := by
      have hb : Nat.beq (Nat.gcd n.natAbs d.toNat) 1 = decide (((Nat.gcd n.natAbs d.toNat : Nat) : Int) = 1) := by
        by_cases h : Nat.gcd n.natAbs d.toNat = 1
        · rw [h]; rfl
        · rw [decide_eq_false (by omega)]
          cases hx : Nat.beq (Nat.gcd n.natAbs d.toNat) 1 with
          | false => rfl
          | true => exact absurd (Nat.eq_of_beq_eq_true hx) h
      simp [vfr, h1, h2, h3, h4, hb]
    rw [decide_eq_true h1, decide_eq_true h2] at c1
    rw [decide_eq_true h3, decide_eq_true h4] at c2
    have c4 := fun σ : St => v55 n.natAbs d.toNat σ [.int .i64 (n.natAbs : Nat), .int .i64 (d.toNat : Nat)] rfl
    rw [← hd] at c4
    exact FnV.mk fn40 rfl md40 (k40t n d n.natAbs (Nat.gcd n.natAbs d.toNat) c1 c2 (fun σ => v31 n (by omega) (by omega) σ _ rfl) c4 _ e.symm) (fun _ => rfl) rfl
  · have e : vfr n d = false := by
      cases h : vfr n d with
      | false => rfl
      | true =>
        simp only [vfr, Bool.and_eq_true, decide_eq_true_eq] at h
        exact absurd ⟨h.1, h.2.1, h.2.2.1, h.2.2.2.1⟩ h1
    rw [e]
    refine FnV.mk fn40 rfl md40 (k40f n d _ _ c1 c2 ?_) (fun _ => rfl) rfl
    cases hx : (decide (1 ≤ d) && decide (d ≤ 1000000000000000000) && (decide (-1000000000000000000 ≤ n) && decide (n ≤ 1000000000000000000))) with
    | false => rfl
    | true =>
      simp only [Bool.and_eq_true, decide_eq_true_eq] at hx
      exact absurd ⟨hx.1.1, hx.1.2, hx.2.1, hx.2.2⟩ h1

theorem W2_agg (n : Nat) : W2 n = .agg [.int .u64 ((n / 18446744073709551616 : Nat) : Int), .int .u64 ((n % 18446744073709551616 : Nat) : Int)] := rfl
theorem vfr_b {n d : Int} (h : vfr n d = true) : 1 ≤ d ∧ d ≤ 1000000000000000000 ∧ -1000000000000000000 ≤ n ∧ n ≤ 1000000000000000000 := by
  simp only [vfr, Bool.and_eq_true, decide_eq_true_eq] at h
  exact ⟨h.1, h.2.1, h.2.2.1, h.2.2.2.1⟩
theorem cmpR_of {p q : Rat} {z : Int} (h1 : q < p → z = 1) (h2 : p < q → z = -1) (h3 : p = q → z = 0) : z = cmpR p q := by
  have hp := cmpR_pos (p := p) (q := q)
  have hz := cmpR_zero (p := p) (q := q)
  unfold cmpR at *
  split
  · rename_i h
    rw [if_pos h] at hz
    exact h3 (hz.1 rfl)
  · rename_i h
    split
    · rename_i h4
      rw [if_neg h, if_pos h4] at hp hz
      refine h2 (Rat.lt_of_le_of_ne (Rat.not_lt.1 fun hh => by have := hp.2 hh; omega) fun e => by have := hz.2 e; omega)
    · rename_i h4
      rw [if_neg h, if_neg h4] at hp
      exact h1 (hp.1 (by decide))
theorem add_parts (p q : Rat) : ∀ g num, Nat.gcd p.den q.den = g → p.num * ((q.den / g : Nat) : Int) + q.num * ((p.den / g : Nat) : Int) = num → (p + q).num.natAbs = num.natAbs / Nat.gcd num.natAbs g ∧ (p + q).den = p.den / g * (q.den / Nat.gcd num.natAbs g) ∧ (ng (p + q) = true ↔ num < 0) ∧ (nm (p + q) = 0 ↔ num = 0) := by
  intro g num hg hnum
  have hg0 : 0 < g := by rw [← hg]; exact Nat.gcd_pos_of_pos_left _ p.den_pos
  have hd1 : p.den / g * g = p.den := Nat.div_mul_cancel (by rw [← hg]; exact Nat.gcd_dvd_left _ _)
  have hd2 : q.den / g * g = q.den := Nat.div_mul_cancel (by rw [← hg]; exact Nat.gcd_dvd_right _ _)
  have hp1 : 0 < p.den / g := Nat.pos_of_ne_zero fun h => by rw [h, Nat.zero_mul] at hd1; have := p.den_pos; omega
  have haux := Rat.add.aux p q (g := g) (ad := p.den / g) (bd := q.den / g) hg.symm rfl rfl
  simp only [hnum] at haux
  have hden : p.den / g * q.den ≠ 0 := Nat.pos_iff_ne_zero.1 (Nat.mul_pos hp1 q.den_pos)
  have e : p + q = mkRat num (p.den / g * q.den) := by
    rw [Rat.add_def', ← Rat.mkRat_mul_right (n := num) (a := g) (by omega)]
    congr 1
    · rw [← hnum, Int.add_mul, Int.mul_assoc, Int.mul_assoc, ← Int.natCast_mul, ← Int.natCast_mul, hd1, hd2]
    · rw [Nat.mul_right_comm, hd1]
  have hgg : Nat.gcd num.natAbs g ∣ q.den := Nat.dvd_trans (Nat.gcd_dvd_right _ _) (by rw [← hg]; exact Nat.gcd_dvd_right _ _)
  have hd : (p.den / g * q.den).gcd num.natAbs = Nat.gcd num.natAbs g := by rw [Nat.gcd_comm, ← haux]
  have hdv : ((Nat.gcd num.natAbs g : Nat) : Int) ∣ num := Int.dvd_natAbs.1 (Int.natCast_dvd_natCast.2 (Nat.gcd_dvd_left _ _))
  have hn : (p + q).num = num / ((Nat.gcd num.natAbs g : Nat) : Int) := by rw [e, Rat.num_mkRat, if_neg hden, hd]
  have hG : 0 < Nat.gcd num.natAbs g := Nat.gcd_pos_of_pos_right _ hg0
  have hnn : num = (p + q).num * ((Nat.gcd num.natAbs g : Nat) : Int) := by rw [hn, Int.ediv_mul_cancel hdv]
  refine ⟨?_, ?_, ?_, ?_⟩
  · rw [hn, ← Int.tdiv_eq_ediv_of_dvd hdv, Int.natAbs_tdiv]; rfl
  · rw [e, Rat.den_mkRat, if_neg hden, hd, Nat.mul_div_assoc _ hgg]
  · rw [ng, decide_eq_true_eq]
    constructor
    · intro h; rw [hnn]; exact Int.mul_neg_of_neg_of_pos h (by omega)
    · intro h
      refine Int.not_le.1 fun hh => ?_
      have := Int.mul_nonneg hh (show (0 : Int) ≤ ((Nat.gcd num.natAbs g : Nat) : Int) by omega)
      rw [← hnn] at this; omega
  · rw [nm, Int.natAbs_eq_zero]
    constructor
    · intro h; rw [hnn, h, Int.zero_mul]
    · intro h; rw [hn, h]; simp
theorem mul_parts (p q : Rat) : (p * q).num = p.num.tdiv ((Nat.gcd p.num.natAbs q.den : Nat) : Int) * q.num.tdiv ((Nat.gcd q.num.natAbs p.den : Nat) : Int) ∧ (p * q).den = p.den / Nat.gcd q.num.natAbs p.den * (q.den / Nat.gcd p.num.natAbs q.den) := by
  constructor
  · show (Rat.mul p q).num = _
    delta Rat.mul; dsimp only
    simp only [Int.divExact_eq_tdiv]
  · show (Rat.mul p q).den = _
    delta Rat.mul; dsimp only
    simp only [Nat.divExact_eq_div]
theorem mul_lt64 {a b : Nat} (ha : a ≤ 1000000000000000000) (hb : b ≤ 1000000000000000000) : 2 * (a * b) < 18446744073709551616 * 18446744073709551616 := by
  have := Nat.mul_le_mul ha hb
  exact Nat.lt_of_le_of_lt (Nat.mul_le_mul_left 2 this) (by decide)
theorem sg_t (n : Int) (k : Nat) : n * (k : Int) = sg (decide (n < 0)) (n.natAbs * k) := by
  have h1 := sg_mul (decide (n < 0)) false n.natAbs k
  rw [sg_of, show sg false k = (k : Int) from rfl] at h1
  rw [h1]; cases decide (n < 0) <;> rfl
theorem abs_sg (b : Bool) (n : Nat) : (sg b n).natAbs = n := sg_abs b n
end Go.Proofs.YtjecbjnckbihoaaDoor
