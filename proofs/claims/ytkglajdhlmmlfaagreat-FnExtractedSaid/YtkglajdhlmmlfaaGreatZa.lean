/- Contracts of the seat, laid out of the texts of the same hand for a seat with other numbers. Nothing is claimed here; no condition. -/
import Derived.Test.YtkglajdhlmmlfaaGreatQb
import Derived.Test.YtkglajdhlmmlfaaGreatAbsT
set_option linter.unusedSimpArgs false
set_option linter.unusedVariables false
namespace Go.Proofs.YtkglajdhlmmlfaaGreat
open Go Go.Abs Go.Nm
attribute [local simp] xI_seq xI_region xI_ret regA regOps runOps opStep wantedA opA evo evos calleeA lk nif_eq putE paramsE valS val2 keepE restrict finA resA binA binInt ofConst ofConst1 loadA TK.isAgg asVar unA builtinA lenOpA lenA indexAddrA evPairs storeA AV.cellsOf pairsOf xI_nil binBool gcE evOpt runTr pairsOk pairOk sameVal AV.eqv lastOf lstAt eqvs boundA indexA regF twoOf prsOf memI runTrF selF runTr2 freshOp scals AV.scal xI_block xI_loopH xI_condM xI_exitM xI_skip xI_blk exitA List.getElem?_cons_zero List.getElem?_cons_succ List.getElem?_toArray List.getElem?_nil ileb_t ileb_f ieqb_t ieqb_f inB_t wrapA_id lp_read ieqb_self Nat.blt_eq cond_true cond_false ty2 ty3 ty4 ty26 ty33 ty73 ty106
theorem add_h {M h l h' l' : Nat} (hab : h * M + l + (h' * M + l') < M * M) : h + h' < M ∧ ∀ L, l + l' = M + L → h + h' + 1 < M := by
  have e : ∀ x y : Nat, x * M + y < M * M → x < M := fun x y h => Nat.lt_of_mul_lt_mul_right (Nat.lt_of_le_of_lt (Nat.le_add_right _ _) h)
  refine ⟨e _ (l + l') (by rw [Nat.add_mul]; omega), fun L hL => e _ L (by rw [Nat.add_mul, Nat.add_mul]; omega)⟩
/-- A number of two words. -/
def W2 (n : Nat) : AV := .agg [.int .u64 ((n / 18446744073709551616 : Nat) : Int), .int .u64 ((n % 18446744073709551616 : Nat) : Int)]
theorem W2_of {h l : Nat} (hl : l < 18446744073709551616) : W2 (h * 18446744073709551616 + l) = .agg [.int .u64 (h : Int), .int .u64 (l : Int)] := by
  rw [W2, Nat.mul_comm, Nat.mul_add_div (by decide), Nat.mul_add_mod, Nat.div_eq_of_lt hl, Nat.mod_eq_of_lt hl, Nat.add_zero]
theorem W2_split (n : Nat) : ∃ h l, n = h * 18446744073709551616 + l ∧ l < 18446744073709551616 := ⟨n / 18446744073709551616, n % 18446744073709551616, by omega, by omega⟩
theorem W2_h {h l n : Nat} (hn : h * 18446744073709551616 + l < n * 18446744073709551616) : h < n := by
  rcases Nat.lt_or_ge h n with h1 | h1
  · exact h1
  · have := Nat.mul_le_mul_right 18446744073709551616 h1; omega

theorem v75 (a b : Int) : FnV TT 75 [.int .i64 a, .int .i64 b] (.int .i64 (if b < a then a else b)) := by
  refine FnV.mk (c := Tryz.f75.body.getD .skip) fn75 rfl md75 (ex1 ?_) (fun _ => rfl) rfl
  rw [fi75]
  simp only [Tryz.f75, Option.getD]
  by_cases h : b < a
  · rw [if_pos h]
    simp (maxSteps := 1000000) (disch := omega) [cellsAt, getCells, takeN, dropN, fieldAddrA, allOne, AV.one, n_push, storeCellsA, putN, overN, St.push, St.get, St.set, hget, hset, blt_dec, buildA, sizesOf, fillA, putCells, List.take_succ_cons, List.take_zero, List.drop_succ_cons, List.drop_zero, List.nil_append, List.cons_append, List.length_cons, List.length_nil, eqvs_dgs]
  · rw [if_neg h]
    simp (maxSteps := 1000000) (disch := omega) [cellsAt, getCells, takeN, dropN, fieldAddrA, allOne, AV.one, n_push, storeCellsA, putN, overN, St.push, St.get, St.set, hget, hset, blt_dec, buildA, sizesOf, fillA, putCells, List.take_succ_cons, List.take_zero, List.drop_succ_cons, List.drop_zero, List.nil_append, List.cons_append, List.length_cons, List.length_nil, eqvs_dgs]
theorem v75a (n : Int) : FnV TT 75 [.int .i64 n, .int .i64 (-n)] (.int .i64 (n.natAbs : Nat)) := by
  have := v75 n (-n)
  have e : (if -n < n then n else -n) = ((n.natAbs : Nat) : Int) := by split <;> omega
  rw [e] at this; exact this

theorem v85 (n a b : Int) : FnV TT 85 [.int .i64 n, .int .i64 a, .int .i64 b] (.bool (decide (a ≤ n) && decide (n ≤ b))) := by
  refine FnV.mk (c := Tryz.f85.body.getD .skip) fn85 rfl md85 (ex1 ?_) (fun _ => rfl) rfl
  rw [fi85]
  simp only [Tryz.f85, Option.getD]
  by_cases h : a ≤ n
  · by_cases h2 : n ≤ b
    · rw [decide_eq_true h, decide_eq_true h2]
      simp (maxSteps := 1000000) (disch := omega) [cellsAt, getCells, takeN, dropN, fieldAddrA, allOne, AV.one, n_push, storeCellsA, putN, overN, St.push, St.get, St.set, hget, hset, blt_dec, buildA, sizesOf, fillA, putCells, List.take_succ_cons, List.take_zero, List.drop_succ_cons, List.drop_zero, List.nil_append, List.cons_append, List.length_cons, List.length_nil, eqvs_dgs]
    · rw [decide_eq_true h, decide_eq_false h2]
      simp (maxSteps := 1000000) (disch := omega) [cellsAt, getCells, takeN, dropN, fieldAddrA, allOne, AV.one, n_push, storeCellsA, putN, overN, St.push, St.get, St.set, hget, hset, blt_dec, buildA, sizesOf, fillA, putCells, List.take_succ_cons, List.take_zero, List.drop_succ_cons, List.drop_zero, List.nil_append, List.cons_append, List.length_cons, List.length_nil, eqvs_dgs]
  · rw [decide_eq_false h]
    simp (maxSteps := 1000000) (disch := omega) [cellsAt, getCells, takeN, dropN, fieldAddrA, allOne, AV.one, n_push, storeCellsA, putN, overN, St.push, St.get, St.set, hget, hset, blt_dec, buildA, sizesOf, fillA, putCells, List.take_succ_cons, List.take_zero, List.drop_succ_cons, List.drop_zero, List.nil_append, List.cons_append, List.length_cons, List.length_nil, eqvs_dgs]

noncomputable def b74 : Code := Tryz.f74.body.getD .skip
noncomputable def B74_0 : Code := (bodyC (bodyC (fstC (sndC b74))))
noncomputable def K74_0 : List It := .lp B74_0 :: .blk 0 :: .code (sndC (sndC b74)) :: []
theorem xl74_0 {fi : FI} {env : Env} {σ : St} : exI TT fi K74_0 env σ = exI TT fi (.code B74_0 :: K74_0) env σ := by unfold K74_0; exact xI_lp
noncomputable def R74_0_0 : List It := .code (sndC (sndC b74)) :: []
theorem eK74_0_0 : exitA 0 K74_0 = some R74_0_0 := rfl
theorem st74 (a b c : Nat) (σ : St) (hb : 0 < b) (hc : (a : Int).tmod (b : Int) = (c : Int)) :
    exI TT (FI.of Tryz.f74 (TT.an 74)) K74_0 [(0, .int .i64 a), (1, .int .i64 b)] σ = exI TT (FI.of Tryz.f74 (TT.an 74)) K74_0 [(0, .int .i64 b), (1, .int .i64 c)] σ := by
  have hb2 : (0 : Int) < (b : Int) := by omega
  rw [fi74]
  conv => lhs; rw [xl74_0]
  simp only [B74_0, b74, Tryz.f74, Option.getD, fstC, sndC, bodyC, thnC, elsC]
  simp (maxSteps := 1000000) (disch := omega) [eK74_0_0, hc]
theorem en74 (a : Nat) (σ : St) : exI TT (FI.of Tryz.f74 (TT.an 74)) K74_0 [(0, .int .i64 a), (1, .int .i64 0)] σ = some (.int .i64 a, σ) := by
  rw [fi74, xl74_0]
  simp only [B74_0, b74, Tryz.f74, Option.getD, fstC, sndC, bodyC, thnC, elsC]
  simp (maxSteps := 1000000) (disch := omega) [eK74_0_0]
  simp only [R74_0_0, b74, Tryz.f74, Option.getD, fstC, sndC, bodyC, thnC, elsC]
  simp (maxSteps := 1000000) (disch := omega) [eK74_0_0]
theorem l74 (σ : St) : ∀ (b a : Nat), exI TT (FI.of Tryz.f74 (TT.an 74)) K74_0 [(0, .int .i64 a), (1, .int .i64 b)] σ = some (.int .i64 (Nat.gcd a b : Nat), σ) := by
  intro b
  induction b using Nat.strongRecOn with
  | ind b ih =>
    intro a
    rcases Nat.eq_zero_or_pos b with rfl | hpos
    · rw [Nat.gcd_zero_right]
      exact en74 _ σ
    · have h := ih (a % b) (Nat.mod_lt _ hpos) b
      rw [gcd_step a b hpos, ← h]
      exact st74 a b (a % b) σ hpos rfl
theorem v74 (a b : Nat) : FnV TT 74 [.int .i64 a, .int .i64 b] (.int .i64 (Nat.gcd a b : Nat)) := by
  have h := l74 ⟨[], 0⟩ b a
  refine FnV.mk fn74 rfl md74 ⟨⟨[], 0⟩, ?_⟩ (fun _ => rfl) rfl
  rw [← h, fi74]
  simp (maxSteps := 1000000) (disch := omega) [eK74_0_0]
  rfl

theorem dig_lt {M x y : Nat} (hx : x < M) (hy : y < M) : x * M + y < M * M := by
  have := Nat.mul_le_mul_right M (show x + 1 ≤ M from hx)
  rw [Nat.add_mul] at this; omega
theorem times_eq {a1 a0 b1 b0 l1 l0 o1 o0 t1 t0 m1 mm : Nat} (hl : a0 * b0 = l1 * 4294967296 + l0) (ho : a1 * b0 = o1 * 4294967296 + o0) (ht : a0 * b1 = t1 * 4294967296 + t0) (hm : l1 + o0 + t0 = m1 * 4294967296 + mm) : (a1 * 4294967296 + a0) * (b1 * 4294967296 + b0) = (a1 * b1 + o1 + t1 + m1) * 18446744073709551616 + (mm * 4294967296 + l0) := by
  have e : (a1 * 4294967296 + a0) * (b1 * 4294967296 + b0) = a1 * b1 * 18446744073709551616 + (a1 * b0 + a0 * b1) * 4294967296 + a0 * b0 := by
    simp only [Nat.add_mul, Nat.mul_add]
    have e1 : a1 * 4294967296 * (b1 * 4294967296) = a1 * b1 * 18446744073709551616 := by
      rw [Nat.mul_assoc, Nat.mul_left_comm 4294967296 b1, ← Nat.mul_assoc, show 4294967296 * 4294967296 = 18446744073709551616 from rfl]
    have e2 : a1 * 4294967296 * b0 = a1 * b0 * 4294967296 := by rw [Nat.mul_right_comm]
    have e3 : a0 * (b1 * 4294967296) = a0 * b1 * 4294967296 := by rw [Nat.mul_assoc]
    rw [e1, e2, e3]; omega
  rw [e, hl, ho, ht]; omega
noncomputable def b86 : Code := Tryz.f86.body.getD .skip
noncomputable def R86_0 : Code := b86
noncomputable def R86_1 : Code := sndC (b86)
noncomputable def R86_2 : Code := sndC (sndC (b86))
noncomputable def R86_3 : Code := sndC (sndC (sndC (b86)))
noncomputable def R86_4 : Code := sndC (sndC (sndC (sndC (b86))))
theorem e86_0 : R86_0 = .seq (fstC (b86)) R86_1 := rfl
theorem e86_1 : R86_1 = .seq (fstC (sndC (b86))) R86_2 := rfl
theorem e86_2 : R86_2 = .seq (fstC (sndC (sndC (b86)))) R86_3 := rfl
theorem e86_3 : R86_3 = .seq (fstC (sndC (sndC (sndC (b86))))) R86_4 := rfl
theorem k86a (a b : Nat) (ca : wrapA .u64 (a : Int) = a) (cb : wrapA .u64 (b : Int) = b) : exI TT (FI.of Tryz.f86 (TT.an 86)) [.code R86_0] (paramsE 0 [.int .i64 a, .int .i64 b]) ⟨[], 0⟩ = exI TT (FI.of Tryz.f86 (TT.an 86)) [.code R86_4] [(4, .ptr 0 0), (5, .int .u64 a), (6, .int .u64 b), (7, .int .u64 4294967296)] ⟨[(0, ⟨[.int .u64 0, .int .u64 0], 2, false⟩)], 1⟩ := by
  rw [fi86, e86_0, xI_seq, e86_1, e86_2, e86_3]
  simp only [b86, Tryz.f86, Option.getD, fstC, sndC, bodyC, thnC, elsC]
  simp (maxSteps := 1000000) (disch := omega) [cellsAt, getCells, takeN, dropN, fieldAddrA, allOne, AV.one, n_push, storeCellsA, putN, overN, St.push, St.get, St.set, hget, hset, blt_dec, buildA, sizesOf, fillA, putCells, List.take_succ_cons, List.take_zero, List.drop_succ_cons, List.drop_zero, List.nil_append, List.cons_append, List.length_cons, List.length_nil, eqvs_dgs, convA, ca, cb]
set_option maxHeartbeats 4000000 in
theorem k86b (N : Int) (hn0 : N ≠ 0) (a b a1 a0 b1 b0 low one two hh l1 l0 o1 o0 t1 t0 s1 mid m1 h1 h2 h3 ms lo : Nat) (ca : wrapA .u64 (a : Int) = a) (cb : wrapA .u64 (b : Int) = b)
    (ma : (a : Int).tmod N = a0) (da : (a : Int).tdiv N = a1) (mb : (b : Int).tmod N = b0) (db : (b : Int).tdiv N = b1) (wa : wrapA .u64 (a1 : Int) = a1) (wb : wrapA .u64 (b1 : Int) = b1)
    (p0 : wrapA .u64 ((a0 : Int) * (b0 : Int)) = low) (p1 : wrapA .u64 ((a1 : Int) * (b0 : Int)) = one) (p2 : wrapA .u64 ((a0 : Int) * (b1 : Int)) = two) (p3 : wrapA .u64 ((a1 : Int) * (b1 : Int)) = hh)
    (dl : (low : Int).tdiv N = l1) (ml : (low : Int).tmod N = l0) (wl : wrapA .u64 (l1 : Int) = l1) (do_ : (one : Int).tdiv N = o1) (mo : (one : Int).tmod N = o0) (wo : wrapA .u64 (o1 : Int) = o1) (dt : (two : Int).tdiv N = t1) (mt : (two : Int).tmod N = t0) (wt : wrapA .u64 (t1 : Int) = t1)
    (q1 : wrapA .u64 ((l1 : Int) + (o0 : Int)) = s1) (q2 : wrapA .u64 ((s1 : Int) + (t0 : Int)) = mid) (dm : (mid : Int).tdiv N = m1) (wm : wrapA .u64 (m1 : Int) = m1)
    (r1 : wrapA .u64 ((hh : Int) + (o1 : Int)) = h1) (r2 : wrapA .u64 ((h1 : Int) + (t1 : Int)) = h2) (r3 : wrapA .u64 ((h2 : Int) + (m1 : Int)) = h3) (sh : wrapA .u64 (shlA (mid : Int) (min 32 IntKind.u64.bits)) = ms) (oo : bitsA .or .u64 (ms : Int) (l0 : Int) = some (.int .u64 lo)) :
    (exI TT (FI.of Tryz.f86 (TT.an 86)) [.code R86_4] [(4, .ptr 0 0), (5, .int .u64 a), (6, .int .u64 b), (7, .int .u64 N)] ⟨[(0, ⟨[.int .u64 0, .int .u64 0], 2, false⟩)], 1⟩).map Prod.fst = some (.agg [.int .u64 h3, .int .u64 lo]) := by
  rw [fi86]
  simp only [R86_4, b86, Tryz.f86, Option.getD, fstC, sndC, bodyC, thnC, elsC]
  simp (maxSteps := 1000000) (disch := omega) [cellsAt, getCells, takeN, dropN, fieldAddrA, allOne, AV.one, n_push, storeCellsA, putN, overN, St.push, St.get, St.set, hget, hset, blt_dec, buildA, sizesOf, fillA, putCells, List.take_succ_cons, List.take_zero, List.drop_succ_cons, List.drop_zero, List.nil_append, List.cons_append, List.length_cons, List.length_nil, eqvs_dgs, convA, ma, da, mb, db, wa, wb, p0, p1, p2, p3, dl, ml, wl, do_, mo, wo, dt, mt, wt, q1, q2, dm, wm, r1, r2, r3, sh, oo, hn0]
theorem w64p {a b : Nat} (h : a * b ≤ 18446744073709551615) : wrapA .u64 ((a : Int) * (b : Int)) = ((a * b : Nat) : Int) := by rw [← Int.natCast_mul]; exact w64 h
theorem w64a {a b : Nat} (h : a + b ≤ 18446744073709551615) : wrapA .u64 ((a : Int) + (b : Int)) = ((a + b : Nat) : Int) := by rw [← Int.natCast_add]; exact w64 h
theorem tm32 {x q y : Nat} (h : x = q * 4294967296 + y) (hy : y < 4294967296) : (x : Int).tmod 4294967296 = (y : Int) := by
  have e : x % 4294967296 = y := by omega
  rw [← e]; rfl
theorem td32 {x q y : Nat} (h : x = q * 4294967296 + y) (hy : y < 4294967296) : (x : Int).tdiv 4294967296 = (q : Int) := by
  have e : x / 4294967296 = q := by omega
  rw [← e]; rfl
theorem sh_mid {t m1 mm : Nat} (em : t = m1 * 4294967296 + mm) (hmm : mm < 4294967296) : wrapA .u64 (shlA (t : Int) (min 32 IntKind.u64.bits)) = ((mm * 4294967296 : Nat) : Int) := by
  rw [shlU32, wrapA_eq]
  have : t * 4294967296 = m1 * 18446744073709551616 + mm * 4294967296 := by omega
  rw [this]
  simp [IntKind.wrap, IntKind.bits, IntKind.signed]; omega
theorem small_mul {a b : Nat} (ha : a < 4294967296) (hb : b < 4294967296) : a * b ≤ 18446744065119617025 := by
  have := Nat.mul_le_mul (show a ≤ 4294967295 by omega) (show b ≤ 4294967295 by omega)
  exact this
theorem v86 (a b : Nat) (ha : a < 9223372036854775808) (hb : b < 9223372036854775808) : FnF TT 86 [.int .i64 a, .int .i64 b] (W2 (a * b)) := by
  obtain ⟨a1, a0, ea, ha0, ha1⟩ : ∃ a1 a0, a = a1 * 4294967296 + a0 ∧ a0 < 4294967296 ∧ a1 < 2147483648 := ⟨a / 4294967296, a % 4294967296, by omega, by omega, by omega⟩
  obtain ⟨b1, b0, eb, hb0, hb1⟩ : ∃ b1 b0, b = b1 * 4294967296 + b0 ∧ b0 < 4294967296 ∧ b1 < 2147483648 := ⟨b / 4294967296, b % 4294967296, by omega, by omega, by omega⟩
  have x0 := small_mul ha0 hb0
  have x1 := small_mul (show a1 < 4294967296 by omega) hb0
  have x2 := small_mul ha0 (show b1 < 4294967296 by omega)
  have x3 : a1 * b1 ≤ 4611686018427387904 := Nat.mul_le_mul (show a1 ≤ 2147483648 by omega) (show b1 ≤ 2147483648 by omega)
  have p0 := w64p (a := a0) (b := b0) (Nat.le_trans x0 (by decide))
  have p1 := w64p (a := a1) (b := b0) (Nat.le_trans x1 (by decide))
  have p2 := w64p (a := a0) (b := b1) (Nat.le_trans x2 (by decide))
  have p3 := w64p (a := a1) (b := b1) (Nat.le_trans x3 (by decide))
  have hte := fun l1 l0 o1 o0 t1 t0 m1 mm => @times_eq a1 a0 b1 b0 l1 l0 o1 o0 t1 t0 m1 mm
  obtain ⟨low, hlow⟩ : ∃ low, a0 * b0 = low := ⟨_, rfl⟩
  obtain ⟨one, hone⟩ : ∃ one, a1 * b0 = one := ⟨_, rfl⟩
  obtain ⟨two, htwo⟩ : ∃ two, a0 * b1 = two := ⟨_, rfl⟩
  obtain ⟨hh, hhh⟩ : ∃ hh, a1 * b1 = hh := ⟨_, rfl⟩
  rw [hlow] at x0 p0 hte
  rw [hone] at x1 p1 hte
  rw [htwo] at x2 p2 hte
  rw [hhh] at x3 p3 hte
  obtain ⟨l1, l0, el, hl0, hl1⟩ : ∃ l1 l0, low = l1 * 4294967296 + l0 ∧ l0 < 4294967296 ∧ l1 < 4294967296 := ⟨low / 4294967296, low % 4294967296, by omega, by omega, by omega⟩
  obtain ⟨o1, o0, eo, ho0, ho1⟩ : ∃ o1 o0, one = o1 * 4294967296 + o0 ∧ o0 < 4294967296 ∧ o1 < 4294967296 := ⟨one / 4294967296, one % 4294967296, by omega, by omega, by omega⟩
  obtain ⟨t1, t0, et, ht0, ht1⟩ : ∃ t1 t0, two = t1 * 4294967296 + t0 ∧ t0 < 4294967296 ∧ t1 < 4294967296 := ⟨two / 4294967296, two % 4294967296, by omega, by omega, by omega⟩
  obtain ⟨m1, mm, em, hmm, hm1⟩ : ∃ m1 mm, l1 + o0 + t0 = m1 * 4294967296 + mm ∧ mm < 4294967296 ∧ m1 < 3 := ⟨(l1 + o0 + t0) / 4294967296, (l1 + o0 + t0) % 4294967296, by omega, by omega, by omega⟩
  have hfin := hte l1 l0 o1 o0 t1 t0 m1 mm el eo et em
  have hsh := sh_mid em hmm
  have hoo := or_dig (c := mm) (d := l0) hmm hl0
  have hL : mm * 4294967296 + l0 < 18446744073709551616 := Nat.lt_of_lt_of_eq (dig_lt hmm hl0) rfl
  rw [ea, eb, hfin, W2_of hL, ← ea, ← eb]
  refine FnF.mkv (c := R86_0) fn86 rfl md86 (ex1 ?_) (fun _ => rfl)
  rw [k86a a b (w64 (by omega)) (w64 (by omega))]
  exact (k86b 4294967296 (by decide) a b a1 a0 b1 b0 low one two hh l1 l0 o1 o0 t1 t0 (l1 + o0) (l1 + o0 + t0) m1 (hh + o1) (hh + o1 + t1) (hh + o1 + t1 + m1) (mm * 4294967296) (mm * 4294967296 + l0) (w64 (by omega)) (w64 (by omega)) (tm32 ea ha0) (td32 ea ha0) (tm32 eb hb0) (td32 eb hb0) (w64 (by omega)) (w64 (by omega)) p0 p1 p2 p3 (td32 el hl0) (tm32 el hl0) (w64 (by omega)) (td32 eo ho0) (tm32 eo ho0) (w64 (by omega)) (td32 et ht0) (tm32 et ht0) (w64 (by omega)) (w64a (by omega)) (w64a (by omega)) (td32 em hmm) (w64 (by omega)) (w64a (by omega)) (w64a (by omega)) (w64a (by omega)) hsh hoo)

set_option maxHeartbeats 2000000 in
theorem v88 (a b : Nat) : FnV TT 88 [W2 a, W2 b] (.bool (decide (a < b))) := by
  obtain ⟨h, l, rfl, hl⟩ := W2_split a
  obtain ⟨h', l', rfl, hl'⟩ := W2_split b
  rw [W2_of hl, W2_of hl']
  refine FnV.mk (c := Tryz.f88.body.getD .skip) fn88 rfl md88 (ex1 ?_) (fun _ => rfl) rfl
  rw [fi88]
  simp only [Tryz.f88, Option.getD]
  rcases Nat.lt_trichotomy h h' with h1 | h1 | h1
  · rw [decide_eq_true (by omega)]
    simp (maxSteps := 1000000) (disch := omega) [cellsAt, getCells, takeN, dropN, fieldAddrA, allOne, AV.one, n_push, storeCellsA, putN, overN, St.push, St.get, St.set, hget, hset, blt_dec, buildA, sizesOf, fillA, putCells, List.take_succ_cons, List.take_zero, List.drop_succ_cons, List.drop_zero, List.nil_append, List.cons_append, List.length_cons, List.length_nil, eqvs_dgs]
  · subst h1
    by_cases h2 : l < l'
    · rw [decide_eq_true (by omega)]
      simp (maxSteps := 1000000) (disch := omega) [cellsAt, getCells, takeN, dropN, fieldAddrA, allOne, AV.one, n_push, storeCellsA, putN, overN, St.push, St.get, St.set, hget, hset, blt_dec, buildA, sizesOf, fillA, putCells, List.take_succ_cons, List.take_zero, List.drop_succ_cons, List.drop_zero, List.nil_append, List.cons_append, List.length_cons, List.length_nil, eqvs_dgs]
    · rw [decide_eq_false (by omega)]
      simp (maxSteps := 1000000) (disch := omega) [cellsAt, getCells, takeN, dropN, fieldAddrA, allOne, AV.one, n_push, storeCellsA, putN, overN, St.push, St.get, St.set, hget, hset, blt_dec, buildA, sizesOf, fillA, putCells, List.take_succ_cons, List.take_zero, List.drop_succ_cons, List.drop_zero, List.nil_append, List.cons_append, List.length_cons, List.length_nil, eqvs_dgs]
  · rw [decide_eq_false (by omega)]
    simp (maxSteps := 1000000) (disch := omega) [cellsAt, getCells, takeN, dropN, fieldAddrA, allOne, AV.one, n_push, storeCellsA, putN, overN, St.push, St.get, St.set, hget, hset, blt_dec, buildA, sizesOf, fillA, putCells, List.take_succ_cons, List.take_zero, List.drop_succ_cons, List.drop_zero, List.nil_append, List.cons_append, List.length_cons, List.length_nil, eqvs_dgs]

theorem w64o {a b c : Nat} (ha : a < 18446744073709551616) (hb : b < 18446744073709551616) (h : a + b = 18446744073709551616 + c) : wrapA .u64 ((a : Int) + (b : Int)) = (c : Int) := by
  rw [wrapA_eq]; simp [IntKind.wrap, IntKind.bits, IntKind.signed]; omega
theorem w64u {a b c : Nat} (ha : a < 18446744073709551616) (hb : b < 18446744073709551616) (h : a + 18446744073709551616 = b + c) (hab : a < b) : wrapA .u64 ((a : Int) - (b : Int)) = (c : Int) := by
  rw [wrapA_eq]; simp [IntKind.wrap, IntKind.bits, IntKind.signed]; omega
theorem w64s {a b : Nat} (h : b ≤ a) (ha : a < 18446744073709551616) : wrapA .u64 ((a : Int) - (b : Int)) = ((a - b : Nat) : Int) := by
  rw [wrap64_id (by omega) (by omega)]; omega
set_option maxHeartbeats 2000000 in
theorem v87 (a b : Nat) (hab : a + b < 18446744073709551616 * 18446744073709551616) : FnF TT 87 [W2 a, W2 b] (W2 (a + b)) := by
  obtain ⟨h, l, rfl, hl⟩ := W2_split a
  obtain ⟨h', l', rfl, hl'⟩ := W2_split b
  rw [W2_of hl, W2_of hl']
  have hh : h + h' < 18446744073709551616 := (add_h hab).1
  have c1 := w64a (a := h) (b := h') (by omega)
  by_cases hc : l + l' < 18446744073709551616
  · have e : h * 18446744073709551616 + l + (h' * 18446744073709551616 + l') = (h + h') * 18446744073709551616 + (l + l') := by omega
    have c2 := w64a (a := l) (b := l') (by omega)
    rw [e, W2_of hc]
    refine FnF.mkv (c := Tryz.f87.body.getD .skip) fn87 rfl md87 (ex1 ?_) (fun _ => rfl)
    have h1 : (l : Int) ≤ ((l + l' : Nat) : Int) := by omega
    generalize l + l' = L at *
    generalize h + h' = H at *
    rw [fi87]
    simp only [Tryz.f87, Option.getD]
    simp (maxSteps := 1000000) (disch := omega) [cellsAt, getCells, takeN, dropN, fieldAddrA, allOne, AV.one, n_push, storeCellsA, putN, overN, St.push, St.get, St.set, hget, hset, blt_dec, buildA, sizesOf, fillA, putCells, List.take_succ_cons, List.take_zero, List.drop_succ_cons, List.drop_zero, List.nil_append, List.cons_append, List.length_cons, List.length_nil, eqvs_dgs, c1, c2]
  · obtain ⟨L, hL⟩ : ∃ L, l + l' = 18446744073709551616 + L := ⟨l + l' - 18446744073709551616, by omega⟩
    have e : h * 18446744073709551616 + l + (h' * 18446744073709551616 + l') = (h + h' + 1) * 18446744073709551616 + L := by omega
    have c2 := w64o hl hl' hL
    have hh1 : h + h' + 1 < 18446744073709551616 := (add_h hab).2 L hL
    have c3 : wrapA .u64 (((h + h' : Nat) : Int) + 1) = ((h + h' + 1 : Nat) : Int) := by rw [wrap64_id (by omega) (by omega)]; omega
    rw [e, W2_of (by omega)]
    refine FnF.mkv (c := Tryz.f87.body.getD .skip) fn87 rfl md87 (ex1 ?_) (fun _ => rfl)
    have h1 : (L : Int) < (l : Int) := by omega
    generalize h + h' + 1 = H1 at *
    generalize h + h' = H at *
    rw [fi87]
    simp only [Tryz.f87, Option.getD]
    simp (maxSteps := 1000000) (disch := omega) [cellsAt, getCells, takeN, dropN, fieldAddrA, allOne, AV.one, n_push, storeCellsA, putN, overN, St.push, St.get, St.set, hget, hset, blt_dec, buildA, sizesOf, fillA, putCells, List.take_succ_cons, List.take_zero, List.drop_succ_cons, List.drop_zero, List.nil_append, List.cons_append, List.length_cons, List.length_nil, eqvs_dgs, c1, c2, c3]

set_option maxHeartbeats 2000000 in
theorem v89 (a b : Nat) (hba : b ≤ a) (ha : a < 18446744073709551616 * 18446744073709551616) : FnF TT 89 [W2 a, W2 b] (W2 (a - b)) := by
  obtain ⟨h, l, rfl, hl⟩ := W2_split a
  obtain ⟨h', l', rfl, hl'⟩ := W2_split b
  rw [W2_of hl, W2_of hl']
  have hH : h < 18446744073709551616 := W2_h (l := l) ha
  by_cases hc : l' ≤ l
  · have hh : h' ≤ h := by omega
    have e : h * 18446744073709551616 + l - (h' * 18446744073709551616 + l') = (h - h') * 18446744073709551616 + (l - l') := by omega
    have c1 := w64s hh hH
    have c2 := w64s hc hl
    rw [e, W2_of (by omega)]
    refine FnF.mkv (c := Tryz.f89.body.getD .skip) fn89 rfl md89 (ex1 ?_) (fun _ => rfl)
    have h1 : (l' : Int) ≤ (l : Int) := by omega
    generalize l - l' = L at *
    generalize h - h' = H at *
    rw [fi89]
    simp only [Tryz.f89, Option.getD]
    simp (maxSteps := 1000000) (disch := omega) [cellsAt, getCells, takeN, dropN, fieldAddrA, allOne, AV.one, n_push, storeCellsA, putN, overN, St.push, St.get, St.set, hget, hset, blt_dec, buildA, sizesOf, fillA, putCells, List.take_succ_cons, List.take_zero, List.drop_succ_cons, List.drop_zero, List.nil_append, List.cons_append, List.length_cons, List.length_nil, eqvs_dgs, c1, c2]
  · have hh : h' + 1 ≤ h := by omega
    have c1 := w64s (a := h) (b := h') (by omega) hH
    have c3 : wrapA .u64 (((h - h' : Nat) : Int) - 1) = ((h - h' - 1 : Nat) : Int) := by rw [wrap64_id (by omega) (by omega)]; omega
    obtain ⟨L, hL⟩ : ∃ L, l + 18446744073709551616 = l' + L := ⟨l + 18446744073709551616 - l', by omega⟩
    have c2 := w64u hl hl' hL (by omega)
    have e : h * 18446744073709551616 + l - (h' * 18446744073709551616 + l') = (h - h' - 1) * 18446744073709551616 + L := by omega
    rw [e, W2_of (by omega)]
    refine FnF.mkv (c := Tryz.f89.body.getD .skip) fn89 rfl md89 (ex1 ?_) (fun _ => rfl)
    have h1 : (l : Int) < (l' : Int) := by omega
    generalize h - h' - 1 = H1 at *
    generalize h - h' = H at *
    rw [fi89]
    simp only [Tryz.f89, Option.getD]
    simp (maxSteps := 1000000) (disch := omega) [cellsAt, getCells, takeN, dropN, fieldAddrA, allOne, AV.one, n_push, storeCellsA, putN, overN, St.push, St.get, St.set, hget, hset, blt_dec, buildA, sizesOf, fillA, putCells, List.take_succ_cons, List.take_zero, List.drop_succ_cons, List.drop_zero, List.nil_append, List.cons_append, List.length_cons, List.length_nil, eqvs_dgs, c1, c2, c3]

set_option maxHeartbeats 2000000 in
theorem v91 (n : Nat) : ∃ z : Int, FnV TT 91 [W2 n] (.tup [.int .i64 z, .bool (decide (n ≤ 1000000000000000000))]) ∧ (n ≤ 1000000000000000000 → z = n) := by
  obtain ⟨h, l, rfl, hl⟩ := W2_split n
  rw [W2_of hl]
  by_cases h0 : h = 0
  · subst h0
    by_cases h1 : l ≤ 1000000000000000000
    · refine ⟨l, FnV.mk (c := Tryz.f91.body.getD .skip) fn91 rfl md91 (ex1 ?_) (fun _ => rfl) rfl, fun _ => by omega⟩
      have c1 : wrapA .i64 (l : Int) = (l : Int) := wi64 (by omega)
      rw [decide_eq_true (by omega)]
      rw [fi91]
      simp only [Tryz.f91, Option.getD]
      simp (maxSteps := 1000000) (disch := omega) [cellsAt, getCells, takeN, dropN, fieldAddrA, allOne, AV.one, n_push, storeCellsA, putN, overN, St.push, St.get, St.set, hget, hset, blt_dec, buildA, sizesOf, fillA, putCells, List.take_succ_cons, List.take_zero, List.drop_succ_cons, List.drop_zero, List.nil_append, List.cons_append, List.length_cons, List.length_nil, eqvs_dgs, convA, c1]
    · refine ⟨0, FnV.mk (c := Tryz.f91.body.getD .skip) fn91 rfl md91 (ex1 ?_) (fun _ => rfl) rfl, fun h => by omega⟩
      rw [decide_eq_false (by omega)]
      rw [fi91]
      simp only [Tryz.f91, Option.getD]
      simp (maxSteps := 1000000) (disch := omega) [cellsAt, getCells, takeN, dropN, fieldAddrA, allOne, AV.one, n_push, storeCellsA, putN, overN, St.push, St.get, St.set, hget, hset, blt_dec, buildA, sizesOf, fillA, putCells, List.take_succ_cons, List.take_zero, List.drop_succ_cons, List.drop_zero, List.nil_append, List.cons_append, List.length_cons, List.length_nil, eqvs_dgs]
  · refine ⟨0, FnV.mk (c := Tryz.f91.body.getD .skip) fn91 rfl md91 (ex1 ?_) (fun _ => rfl) rfl, fun h => by omega⟩
    rw [decide_eq_false (by omega)]
    have h1 : (0 : Int) < (h : Int) := by omega
    rw [fi91]
    simp only [Tryz.f91, Option.getD]
    simp (maxSteps := 1000000) (disch := omega) [cellsAt, getCells, takeN, dropN, fieldAddrA, allOne, AV.one, n_push, storeCellsA, putN, overN, St.push, St.get, St.set, hget, hset, blt_dec, buildA, sizesOf, fillA, putCells, List.take_succ_cons, List.take_zero, List.drop_succ_cons, List.drop_zero, List.nil_append, List.cons_append, List.length_cons, List.length_nil, eqvs_dgs]

noncomputable def b90 : Code := Tryz.f90.body.getD .skip
noncomputable def B90_0 : Code := (bodyC (bodyC (sndC (fstC (sndC (sndC (sndC b90)))))))
noncomputable def K90_0 : List It := .lp B90_0 :: .blk 0 :: .code (sndC (sndC (sndC (sndC b90)))) :: []
theorem xl90_0 {fi : FI} {env : Env} {σ : St} : exI TT fi K90_0 env σ = exI TT fi (.code B90_0 :: K90_0) env σ := by unfold K90_0; exact xI_lp
noncomputable def R90_0_0 : List It := .code (sndC (sndC (sndC (sndC b90)))) :: []
theorem eK90_0_0 : exitA 0 K90_0 = some R90_0_0 := rfl
set_option maxHeartbeats 4000000 in
theorem s90hs (i d ah al qh ql r im x0 b0 ih x1 b r2 r3 qh2 c qh3 ql2 r4 ql3 : Nat) (m : (i : Int).tmod 64 = (im : Int)) (wu : wrapA .u64 (im : Int) = (im : Int)) (sl : shrA (al : Int) (min im IntKind.u64.bits) = (x0 : Int)) (bl : bitsA .and .u64 (x0 : Int) 1 = some (.int .u64 (b0 : Int))) (h64 : (64 : Int) ≤ i) (w6 : wrapA .i64 ((i : Int) - 64) = (ih : Int)) (wu2 : wrapA .u64 (ih : Int) = (ih : Int)) (sh : shrA (ah : Int) (min ih IntKind.u64.bits) = (x1 : Int)) (bh : bitsA .and .u64 (x1 : Int) 1 = some (.int .u64 (b : Int))) (w2 : wrapA .u64 (2 * (r : Int)) = (r2 : Int)) (w3 : wrapA .u64 ((r2 : Int) + (b : Int)) = (r3 : Int)) (s1 : wrapA .u64 (shlA (qh : Int) (min 1 IntKind.u64.bits)) = (qh2 : Int)) (s2 : shrA (ql : Int) (min 63 IntKind.u64.bits) = (c : Int)) (o1 : bitsA .or .u64 (qh2 : Int) (c : Int) = some (.int .u64 (qh3 : Int))) (s3 : wrapA .u64 (shlA (ql : Int) (min 1 IntKind.u64.bits)) = (ql2 : Int)) (cd : wrapA .u64 (d : Int) = (d : Int)) (hw : wrapA .i64 ((i : Int) - 1) = (i : Int) - 1) (hge : (d : Int) ≤ (r3 : Int)) (w4 : wrapA .u64 ((r3 : Int) - (d : Int)) = (r4 : Int)) (o2 : bitsA .or .u64 (ql2 : Int) 1 = some (.int .u64 (ql3 : Int))) :
    exI TT (FI.of Tryz.f90 (TT.an 90)) K90_0 [(1, .int .i64 d), (2, .ptr 0 0), (4, .ptr 1 0), (6, .ptr 2 0), (7, .int .u64 (r : Nat)), (8, .int .i64 i)] ⟨[(2, ⟨[.int .u64 (qh : Nat), .int .u64 (ql : Nat)], 2, false⟩), (1, ⟨[.int .u64 0, .int .u64 0], 2, false⟩), (0, ⟨[.int .u64 (ah : Nat), .int .u64 (al : Nat)], 2, false⟩)], 3⟩ = exI TT (FI.of Tryz.f90 (TT.an 90)) K90_0 [(1, .int .i64 d), (2, .ptr 0 0), (4, .ptr 1 0), (6, .ptr 2 0), (7, .int .u64 (r4 : Nat)), (8, .int .i64 ((i : Int) - 1))] ⟨[(2, ⟨[.int .u64 (qh3 : Nat), .int .u64 (ql3 : Nat)], 2, false⟩), (1, ⟨[.int .u64 0, .int .u64 0], 2, false⟩), (0, ⟨[.int .u64 (ah : Nat), .int .u64 (al : Nat)], 2, false⟩)], 3⟩ := by
  have hi0 : (0 : Int) ≤ (i : Int) := by omega
  skip
  rw [fi90]
  conv => lhs; rw [xl90_0]
  simp only [B90_0, b90, Tryz.f90, Option.getD, fstC, sndC, bodyC, thnC, elsC]
  simp (maxSteps := 1000000) (disch := omega) [eK90_0_0, cellsAt, getCells, takeN, dropN, fieldAddrA, allOne, AV.one, n_push, storeCellsA, putN, overN, St.push, St.get, St.set, hget, hset, blt_dec, buildA, sizesOf, fillA, putCells, List.take_succ_cons, List.take_zero, List.drop_succ_cons, List.drop_zero, List.nil_append, List.cons_append, List.length_cons, List.length_nil, eqvs_dgs, convA, m, wu, sl, bl, w6, wu2, sh, bh, w2, w3, s1, s2, o1, s3, cd, hw, w4, o2]

set_option maxHeartbeats 4000000 in
theorem s90hn (i d ah al qh ql r im x0 b0 ih x1 b r2 r3 qh2 c qh3 ql2 r4 ql3 : Nat) (m : (i : Int).tmod 64 = (im : Int)) (wu : wrapA .u64 (im : Int) = (im : Int)) (sl : shrA (al : Int) (min im IntKind.u64.bits) = (x0 : Int)) (bl : bitsA .and .u64 (x0 : Int) 1 = some (.int .u64 (b0 : Int))) (h64 : (64 : Int) ≤ i) (w6 : wrapA .i64 ((i : Int) - 64) = (ih : Int)) (wu2 : wrapA .u64 (ih : Int) = (ih : Int)) (sh : shrA (ah : Int) (min ih IntKind.u64.bits) = (x1 : Int)) (bh : bitsA .and .u64 (x1 : Int) 1 = some (.int .u64 (b : Int))) (w2 : wrapA .u64 (2 * (r : Int)) = (r2 : Int)) (w3 : wrapA .u64 ((r2 : Int) + (b : Int)) = (r3 : Int)) (s1 : wrapA .u64 (shlA (qh : Int) (min 1 IntKind.u64.bits)) = (qh2 : Int)) (s2 : shrA (ql : Int) (min 63 IntKind.u64.bits) = (c : Int)) (o1 : bitsA .or .u64 (qh2 : Int) (c : Int) = some (.int .u64 (qh3 : Int))) (s3 : wrapA .u64 (shlA (ql : Int) (min 1 IntKind.u64.bits)) = (ql2 : Int)) (cd : wrapA .u64 (d : Int) = (d : Int)) (hw : wrapA .i64 ((i : Int) - 1) = (i : Int) - 1) (hge : (r3 : Int) < (d : Int)) :
    exI TT (FI.of Tryz.f90 (TT.an 90)) K90_0 [(1, .int .i64 d), (2, .ptr 0 0), (4, .ptr 1 0), (6, .ptr 2 0), (7, .int .u64 (r : Nat)), (8, .int .i64 i)] ⟨[(2, ⟨[.int .u64 (qh : Nat), .int .u64 (ql : Nat)], 2, false⟩), (1, ⟨[.int .u64 0, .int .u64 0], 2, false⟩), (0, ⟨[.int .u64 (ah : Nat), .int .u64 (al : Nat)], 2, false⟩)], 3⟩ = exI TT (FI.of Tryz.f90 (TT.an 90)) K90_0 [(1, .int .i64 d), (2, .ptr 0 0), (4, .ptr 1 0), (6, .ptr 2 0), (7, .int .u64 (r3 : Nat)), (8, .int .i64 ((i : Int) - 1))] ⟨[(2, ⟨[.int .u64 (qh3 : Nat), .int .u64 (ql2 : Nat)], 2, false⟩), (1, ⟨[.int .u64 0, .int .u64 0], 2, false⟩), (0, ⟨[.int .u64 (ah : Nat), .int .u64 (al : Nat)], 2, false⟩)], 3⟩ := by
  have hi0 : (0 : Int) ≤ (i : Int) := by omega
  skip
  rw [fi90]
  conv => lhs; rw [xl90_0]
  simp only [B90_0, b90, Tryz.f90, Option.getD, fstC, sndC, bodyC, thnC, elsC]
  simp (maxSteps := 1000000) (disch := omega) [eK90_0_0, cellsAt, getCells, takeN, dropN, fieldAddrA, allOne, AV.one, n_push, storeCellsA, putN, overN, St.push, St.get, St.set, hget, hset, blt_dec, buildA, sizesOf, fillA, putCells, List.take_succ_cons, List.take_zero, List.drop_succ_cons, List.drop_zero, List.nil_append, List.cons_append, List.length_cons, List.length_nil, eqvs_dgs, convA, m, wu, sl, bl, w6, wu2, sh, bh, w2, w3, s1, s2, o1, s3, cd, hw]

set_option maxHeartbeats 4000000 in
theorem s90ls (i d ah al qh ql r im x0 b0 ih x1 b r2 r3 qh2 c qh3 ql2 r4 ql3 : Nat) (m : (i : Int).tmod 64 = (im : Int)) (wu : wrapA .u64 (im : Int) = (im : Int)) (sl : shrA (al : Int) (min im IntKind.u64.bits) = (x0 : Int)) (bl : bitsA .and .u64 (x0 : Int) 1 = some (.int .u64 (b0 : Int))) (h64 : (i : Int) < 64) (hb0 : b0 = b) (w2 : wrapA .u64 (2 * (r : Int)) = (r2 : Int)) (w3 : wrapA .u64 ((r2 : Int) + (b : Int)) = (r3 : Int)) (s1 : wrapA .u64 (shlA (qh : Int) (min 1 IntKind.u64.bits)) = (qh2 : Int)) (s2 : shrA (ql : Int) (min 63 IntKind.u64.bits) = (c : Int)) (o1 : bitsA .or .u64 (qh2 : Int) (c : Int) = some (.int .u64 (qh3 : Int))) (s3 : wrapA .u64 (shlA (ql : Int) (min 1 IntKind.u64.bits)) = (ql2 : Int)) (cd : wrapA .u64 (d : Int) = (d : Int)) (hw : wrapA .i64 ((i : Int) - 1) = (i : Int) - 1) (hge : (d : Int) ≤ (r3 : Int)) (w4 : wrapA .u64 ((r3 : Int) - (d : Int)) = (r4 : Int)) (o2 : bitsA .or .u64 (ql2 : Int) 1 = some (.int .u64 (ql3 : Int))) :
    exI TT (FI.of Tryz.f90 (TT.an 90)) K90_0 [(1, .int .i64 d), (2, .ptr 0 0), (4, .ptr 1 0), (6, .ptr 2 0), (7, .int .u64 (r : Nat)), (8, .int .i64 i)] ⟨[(2, ⟨[.int .u64 (qh : Nat), .int .u64 (ql : Nat)], 2, false⟩), (1, ⟨[.int .u64 0, .int .u64 0], 2, false⟩), (0, ⟨[.int .u64 (ah : Nat), .int .u64 (al : Nat)], 2, false⟩)], 3⟩ = exI TT (FI.of Tryz.f90 (TT.an 90)) K90_0 [(1, .int .i64 d), (2, .ptr 0 0), (4, .ptr 1 0), (6, .ptr 2 0), (7, .int .u64 (r4 : Nat)), (8, .int .i64 ((i : Int) - 1))] ⟨[(2, ⟨[.int .u64 (qh3 : Nat), .int .u64 (ql3 : Nat)], 2, false⟩), (1, ⟨[.int .u64 0, .int .u64 0], 2, false⟩), (0, ⟨[.int .u64 (ah : Nat), .int .u64 (al : Nat)], 2, false⟩)], 3⟩ := by
  have hi0 : (0 : Int) ≤ (i : Int) := by omega
  subst hb0
  rw [fi90]
  conv => lhs; rw [xl90_0]
  simp only [B90_0, b90, Tryz.f90, Option.getD, fstC, sndC, bodyC, thnC, elsC]
  simp (maxSteps := 1000000) (disch := omega) [eK90_0_0, cellsAt, getCells, takeN, dropN, fieldAddrA, allOne, AV.one, n_push, storeCellsA, putN, overN, St.push, St.get, St.set, hget, hset, blt_dec, buildA, sizesOf, fillA, putCells, List.take_succ_cons, List.take_zero, List.drop_succ_cons, List.drop_zero, List.nil_append, List.cons_append, List.length_cons, List.length_nil, eqvs_dgs, convA, m, wu, sl, bl, w2, w3, s1, s2, o1, s3, cd, hw, w4, o2]

set_option maxHeartbeats 4000000 in
theorem s90ln (i d ah al qh ql r im x0 b0 ih x1 b r2 r3 qh2 c qh3 ql2 r4 ql3 : Nat) (m : (i : Int).tmod 64 = (im : Int)) (wu : wrapA .u64 (im : Int) = (im : Int)) (sl : shrA (al : Int) (min im IntKind.u64.bits) = (x0 : Int)) (bl : bitsA .and .u64 (x0 : Int) 1 = some (.int .u64 (b0 : Int))) (h64 : (i : Int) < 64) (hb0 : b0 = b) (w2 : wrapA .u64 (2 * (r : Int)) = (r2 : Int)) (w3 : wrapA .u64 ((r2 : Int) + (b : Int)) = (r3 : Int)) (s1 : wrapA .u64 (shlA (qh : Int) (min 1 IntKind.u64.bits)) = (qh2 : Int)) (s2 : shrA (ql : Int) (min 63 IntKind.u64.bits) = (c : Int)) (o1 : bitsA .or .u64 (qh2 : Int) (c : Int) = some (.int .u64 (qh3 : Int))) (s3 : wrapA .u64 (shlA (ql : Int) (min 1 IntKind.u64.bits)) = (ql2 : Int)) (cd : wrapA .u64 (d : Int) = (d : Int)) (hw : wrapA .i64 ((i : Int) - 1) = (i : Int) - 1) (hge : (r3 : Int) < (d : Int)) :
    exI TT (FI.of Tryz.f90 (TT.an 90)) K90_0 [(1, .int .i64 d), (2, .ptr 0 0), (4, .ptr 1 0), (6, .ptr 2 0), (7, .int .u64 (r : Nat)), (8, .int .i64 i)] ⟨[(2, ⟨[.int .u64 (qh : Nat), .int .u64 (ql : Nat)], 2, false⟩), (1, ⟨[.int .u64 0, .int .u64 0], 2, false⟩), (0, ⟨[.int .u64 (ah : Nat), .int .u64 (al : Nat)], 2, false⟩)], 3⟩ = exI TT (FI.of Tryz.f90 (TT.an 90)) K90_0 [(1, .int .i64 d), (2, .ptr 0 0), (4, .ptr 1 0), (6, .ptr 2 0), (7, .int .u64 (r3 : Nat)), (8, .int .i64 ((i : Int) - 1))] ⟨[(2, ⟨[.int .u64 (qh3 : Nat), .int .u64 (ql2 : Nat)], 2, false⟩), (1, ⟨[.int .u64 0, .int .u64 0], 2, false⟩), (0, ⟨[.int .u64 (ah : Nat), .int .u64 (al : Nat)], 2, false⟩)], 3⟩ := by
  have hi0 : (0 : Int) ≤ (i : Int) := by omega
  subst hb0
  rw [fi90]
  conv => lhs; rw [xl90_0]
  simp only [B90_0, b90, Tryz.f90, Option.getD, fstC, sndC, bodyC, thnC, elsC]
  simp (maxSteps := 1000000) (disch := omega) [eK90_0_0, cellsAt, getCells, takeN, dropN, fieldAddrA, allOne, AV.one, n_push, storeCellsA, putN, overN, St.push, St.get, St.set, hget, hset, blt_dec, buildA, sizesOf, fillA, putCells, List.take_succ_cons, List.take_zero, List.drop_succ_cons, List.drop_zero, List.nil_append, List.cons_append, List.length_cons, List.length_nil, eqvs_dgs, convA, m, wu, sl, bl, w2, w3, s1, s2, o1, s3, cd, hw]

theorem e90 (d ah al qh ql rr : Nat) (cr : wrapA .i64 (rr : Int) = (rr : Int)) :
    (exI TT (FI.of Tryz.f90 (TT.an 90)) K90_0 [(1, .int .i64 d), (2, .ptr 0 0), (4, .ptr 1 0), (6, .ptr 2 0), (7, .int .u64 (rr : Nat)), (8, .int .i64 (-1))] ⟨[(2, ⟨[.int .u64 (qh : Nat), .int .u64 (ql : Nat)], 2, false⟩), (1, ⟨[.int .u64 0, .int .u64 0], 2, false⟩), (0, ⟨[.int .u64 (ah : Nat), .int .u64 (al : Nat)], 2, false⟩)], 3⟩).map Prod.fst = some (.tup [.agg [.int .u64 qh, .int .u64 ql], .int .i64 rr]) := by
  rw [fi90, xl90_0]
  simp only [B90_0, b90, Tryz.f90, Option.getD, fstC, sndC, bodyC, thnC, elsC]
  simp (maxSteps := 1000000) (disch := omega) [eK90_0_0, cellsAt, getCells, takeN, dropN, fieldAddrA, allOne, AV.one, n_push, storeCellsA, putN, overN, St.push, St.get, St.set, hget, hset, blt_dec, buildA, sizesOf, fillA, putCells, List.take_succ_cons, List.take_zero, List.drop_succ_cons, List.drop_zero, List.nil_append, List.cons_append, List.length_cons, List.length_nil, eqvs_dgs]
  simp only [R90_0_0, b90, Tryz.f90, Option.getD, fstC, sndC, bodyC, thnC, elsC]
  simp (maxSteps := 1000000) (disch := omega) [eK90_0_0, cellsAt, getCells, takeN, dropN, fieldAddrA, allOne, AV.one, n_push, storeCellsA, putN, overN, St.push, St.get, St.set, hget, hset, blt_dec, buildA, sizesOf, fillA, putCells, List.take_succ_cons, List.take_zero, List.drop_succ_cons, List.drop_zero, List.nil_append, List.cons_append, List.length_cons, List.length_nil, eqvs_dgs, convA, cr]
theorem a90 (d ah al : Nat) : exI TT (FI.of Tryz.f90 (TT.an 90)) [.code b90] (paramsE 0 [.agg [.int .u64 ah, .int .u64 al], .int .i64 d]) ⟨[], 0⟩ = exI TT (FI.of Tryz.f90 (TT.an 90)) K90_0 [(1, .int .i64 d), (2, .ptr 0 0), (4, .ptr 1 0), (6, .ptr 2 0), (7, .int .u64 (0 : Nat)), (8, .int .i64 127)] ⟨[(2, ⟨[.int .u64 (0 : Nat), .int .u64 (0 : Nat)], 2, false⟩), (1, ⟨[.int .u64 0, .int .u64 0], 2, false⟩), (0, ⟨[.int .u64 (ah : Nat), .int .u64 (al : Nat)], 2, false⟩)], 3⟩ := by
  rw [fi90]
  simp only [b90, Tryz.f90, Option.getD, fstC, sndC, bodyC, thnC, elsC]
  simp (maxSteps := 1000000) (disch := omega) [eK90_0_0, cellsAt, getCells, takeN, dropN, fieldAddrA, allOne, AV.one, n_push, storeCellsA, putN, overN, St.push, St.get, St.set, hget, hset, blt_dec, buildA, sizesOf, fillA, putCells, List.take_succ_cons, List.take_zero, List.drop_succ_cons, List.drop_zero, List.nil_append, List.cons_append, List.length_cons, List.length_nil, eqvs_dgs]
  rfl
theorem bit_lo {ah al i : Nat} (hi : i < 64) : (ah * 18446744073709551616 + al) / 2 ^ i % 2 = al / 2 ^ i % 2 := by
  have e : ah * 18446744073709551616 = 2 ^ i * (2 * (2 ^ (63 - i) * ah)) := by
    have h1 : (2 : Nat) ^ 64 = 2 ^ i * (2 * 2 ^ (63 - i)) := by
      rw [← Nat.mul_assoc, Nat.mul_comm (2 ^ i) 2, Nat.mul_assoc, ← Nat.pow_add, Nat.mul_comm 2, ← Nat.pow_succ]; congr 1; omega
    rw [show (18446744073709551616 : Nat) = 2 ^ 64 from rfl, h1, Nat.mul_comm ah, Nat.mul_assoc, Nat.mul_assoc]
  rw [e, Nat.mul_add_div (Nat.two_pow_pos i), Nat.mul_add_mod]
theorem bit_hi {ah al j : Nat} (hl : al < 18446744073709551616) : (ah * 18446744073709551616 + al) / 2 ^ (64 + j) = ah / 2 ^ j := by
  rw [Nat.pow_add, ← Nat.div_div_eq_div_mul, show (2 : Nat) ^ 64 = 18446744073709551616 from rfl, Nat.mul_comm ah, Nat.mul_add_div (by decide), Nat.div_eq_of_lt hl, Nat.add_zero]
theorem and_one {x : Nat} (h : x ≤ 18446744073709551615) : bitsA .and .u64 (x : Int) 1 = some (.int .u64 ((x % 2 : Nat) : Int)) := and_low64 x 1 h (by decide)
theorem or_one {x : Nat} (h : 2 * x ≤ 18446744073709551614) : bitsA .or .u64 ((2 * x : Nat) : Int) 1 = some (.int .u64 ((2 * x + 1 : Nat) : Int)) := by
  have h1 := w_or .u64 (a := 2 * x) (b := 1) (by simp only [topOf]; omega) (by decide)
  have h3 := Nat.two_pow_add_eq_or_of_lt (i := 1) (b := 1) (by decide) x
  rw [show (2 : Nat) ^ 1 * x = 2 * x from rfl] at h3
  rw [← h3] at h1; exact h1
theorem or_c {x c : Nat} (hc : c < 2) (h : x ≤ 9223372036854775807) : bitsA .or .u64 ((2 * x : Nat) : Int) (c : Int) = some (.int .u64 ((2 * x + c : Nat) : Int)) := by
  have h1 := w_or .u64 (a := 2 * x) (b := c) (by simp only [topOf]; omega) (by simp only [topOf]; omega)
  have h3 := Nat.two_pow_add_eq_or_of_lt (i := 1) (b := c) (by simpa using hc) x
  rw [show (2 : Nat) ^ 1 * x = 2 * x from rfl] at h3
  rw [← h3] at h1; exact h1
theorem dbl {qh ql c l2 : Nat} (h : ql = c * 9223372036854775808 + l2) : 2 * (qh * 18446744073709551616 + ql) = (2 * qh + c) * 18446744073709551616 + 2 * l2 := by omega
theorem ns_shl {q : Nat} (h : q ≤ 9223372036854775807) : wrapA .u64 (shlA (q : Int) (min 1 IntKind.u64.bits)) = ((2 * q : Nat) : Int) := by
  have : shlA (q : Int) (min 1 IntKind.u64.bits) = ((q * 2 : Nat) : Int) := rfl
  rw [this, Nat.mul_comm, w64 (by omega)]
theorem ns_shl2 {q c l2 : Nat} (h : q = c * 9223372036854775808 + l2) (hl : l2 < 9223372036854775808) (hc : c < 2) : wrapA .u64 (shlA (q : Int) (min 1 IntKind.u64.bits)) = ((2 * l2 : Nat) : Int) := by
  have : shlA (q : Int) (min 1 IntKind.u64.bits) = ((q * 2 : Nat) : Int) := rfl
  rw [this, wrapA_eq]
  simp [IntKind.wrap, IntKind.bits, IntKind.signed]; omega
theorem ns_shr {q c l2 : Nat} (h : q = c * 9223372036854775808 + l2) (hl : l2 < 9223372036854775808) : shrA (q : Int) (min 63 IntKind.u64.bits) = (c : Int) := by
  have e : shrA (q : Int) (min 63 IntKind.u64.bits) = ((q / 9223372036854775808 : Nat) : Int) := rfl
  rw [e]; congr 1; omega
theorem shr_n {x j : Nat} (hj : j < 64) : shrA (x : Int) (min j IntKind.u64.bits) = ((x / 2 ^ j : Nat) : Int) := by rw [Nat.min_eq_left (by simp [IntKind.bits]; omega)]; rfl
theorem div_le64 {x j : Nat} (h : x < 18446744073709551616) : x / 2 ^ j ≤ 18446744073709551615 := Nat.le_trans (Nat.div_le_self _ _) (by omega)
theorem q_bound {A q d rr i : Nat} (h : A / 2 ^ (i + 1) = q * d + rr) (hd : 0 < d) (hA : A < 18446744073709551616 * 18446744073709551616) : 2 * q < 18446744073709551616 * 18446744073709551616 := by
  have h1 : q ≤ q * d := Nat.le_mul_of_pos_right q hd
  have h2 : A / 2 ^ (i + 1) ≤ A / 2 := Nat.div_le_div_left (by rw [Nat.pow_succ]; have := Nat.two_pow_pos i; omega) (by decide)
  omega
set_option maxHeartbeats 4000000 in
theorem l90 (d ah al : Nat) (hd : 0 < d) (hdb : d < 9223372036854775808) (hah : ah < 18446744073709551616) (hal : al < 18446744073709551616) : ∀ (I : Nat) (q rr : Nat), I ≤ 128 → (ah * 18446744073709551616 + al) / 2 ^ I = q * d + rr → rr < d →
    (exI TT (FI.of Tryz.f90 (TT.an 90)) K90_0 [(1, .int .i64 d), (2, .ptr 0 0), (4, .ptr 1 0), (6, .ptr 2 0), (7, .int .u64 (rr : Nat)), (8, .int .i64 ((I : Int) - 1))] ⟨[(2, ⟨[.int .u64 ((q / 18446744073709551616) : Nat), .int .u64 ((q % 18446744073709551616) : Nat)], 2, false⟩), (1, ⟨[.int .u64 0, .int .u64 0], 2, false⟩), (0, ⟨[.int .u64 (ah : Nat), .int .u64 (al : Nat)], 2, false⟩)], 3⟩).map Prod.fst = some (.tup [W2 ((ah * 18446744073709551616 + al) / d), .int .i64 ((ah * 18446744073709551616 + al) % d : Nat)]) := by
  have hA : ah * 18446744073709551616 + al < 18446744073709551616 * 18446744073709551616 := dig_lt hah hal
  intro I
  induction I with
  | zero =>
    intro q rr _ h hr
    rw [Nat.pow_zero, Nat.div_one] at h
    have h1 : (ah * 18446744073709551616 + al) / d = q := by rw [h, Nat.mul_comm, Nat.mul_add_div hd, Nat.div_eq_of_lt hr, Nat.add_zero]
    have h2 : (ah * 18446744073709551616 + al) % d = rr := by rw [h, Nat.mul_comm, Nat.mul_add_mod, Nat.mod_eq_of_lt hr]
    rw [h1, h2]
    exact e90 d ah al _ _ rr (wi64 (by omega))
  | succ i ih =>
    intro q rr hI h hr
    have hq2 := q_bound h hd hA
    obtain ⟨bs1, bs2⟩ := bit_step hd h hr
    have hi1 : ((i + 1 : Nat) : Int) - 1 = (i : Int) := by omega
    rw [hi1]
    obtain ⟨b, hb⟩ : ∃ b, (ah * 18446744073709551616 + al) / 2 ^ i % 2 = b := ⟨_, rfl⟩
    have hb2 : b < 2 := by rw [← hb]; exact Nat.mod_lt _ (by decide)
    rw [hb] at bs1 bs2
    obtain ⟨qh, ql, hq, hql⟩ := W2_split q
    have e1 : q / 18446744073709551616 = qh := by rw [hq, Nat.mul_comm, Nat.mul_add_div (by decide), Nat.div_eq_of_lt hql, Nat.add_zero]
    have e2 : q % 18446744073709551616 = ql := by rw [hq, Nat.mul_comm, Nat.mul_add_mod, Nat.mod_eq_of_lt hql]
    rw [e1, e2]
    obtain ⟨c, l2, hc, hl2, hc2⟩ : ∃ c l2, ql = c * 9223372036854775808 + l2 ∧ l2 < 9223372036854775808 ∧ c < 2 := ⟨ql / 9223372036854775808, ql % 9223372036854775808, by omega, by omega, by omega⟩
    have hdb2 := dbl (qh := qh) hc
    rw [← hq] at hdb2
    have hqh3 : 2 * qh + c < 18446744073709551616 := by
      have : (2 * qh + c) * 18446744073709551616 + 2 * l2 < 18446744073709551616 * 18446744073709551616 := by rw [← hdb2]; exact hq2
      exact W2_h this
    have f1 : 2 * q / 18446744073709551616 = 2 * qh + c := by rw [hdb2, Nat.mul_comm (2 * qh + c), Nat.mul_add_div (by decide), Nat.div_eq_of_lt (by omega), Nat.add_zero]
    have f2 : 2 * q % 18446744073709551616 = 2 * l2 := by rw [hdb2, Nat.mul_comm (2 * qh + c), Nat.mul_add_mod, Nat.mod_eq_of_lt (by omega)]
    have f3 : (2 * q + 1) / 18446744073709551616 = 2 * qh + c := by rw [hdb2, Nat.add_assoc, Nat.mul_comm (2 * qh + c), Nat.mul_add_div (by decide), Nat.div_eq_of_lt (by omega), Nat.add_zero]
    have f4 : (2 * q + 1) % 18446744073709551616 = 2 * l2 + 1 := by rw [hdb2, Nat.add_assoc, Nat.mul_comm (2 * qh + c), Nat.mul_add_mod, Nat.mod_eq_of_lt (by omega)]
    have g1 := ns_shl (q := qh) (by omega)
    have g2 := ns_shr hc hl2
    have g3 := ns_shl2 hc hl2 hc2
    have g4 := or_c (x := qh) hc2 (by omega)
    have g5 := or_one (x := l2) (by omega)
    have g6 : wrapA .u64 (2 * (rr : Int)) = ((2 * rr : Nat) : Int) := by rw [show (2 * (rr : Int)) = ((2 * rr : Nat) : Int) by omega]; exact w64 (by omega)
    have g7 := w64a (a := 2 * rr) (b := b) (by omega)
    have g8 : wrapA .i64 ((i : Int) - 1) = (i : Int) - 1 := wrapA_id (by omega) (by omega)
    have m1 : (i : Int).tmod 64 = ((i % 64 : Nat) : Int) := rfl
    have m2 := w64 (n := i % 64) (by omega)
    have m3 := shr_n (x := al) (j := i % 64) (by omega)
    have m4 := and_one (x := al / 2 ^ (i % 64)) (div_le64 hal)
    have m5 := w64 (n := d) (by omega)
    clear e1 e2 hq hdb2 hc h hq2 hqh3
    by_cases h64 : 64 ≤ i
    · obtain ⟨j, rfl⟩ : ∃ j, i = 64 + j := ⟨i - 64, by omega⟩
      rw [bit_hi hal] at hb
      have n1 : wrapA .i64 (((64 + j : Nat) : Int) - 64) = (j : Int) := by rw [wrapA_id (by omega) (by omega)]; omega
      have n2 := w64 (n := j) (by omega)
      have n3 := shr_n (x := ah) (j := j) (by omega)
      have n4 := and_one (x := ah / 2 ^ j) (div_le64 hah)
      rw [hb] at n4
      by_cases hge : d ≤ 2 * rr + b
      · obtain ⟨k1, k2⟩ := bs1 hge
        have := ih _ _ (by omega) k1 k2
        rw [f3, f4] at this
        rw [← this]
        congr 1
        exact s90hs (64 + j) d ah al qh ql rr _ _ _ j _ b _ _ _ c _ _ _ _ m1 m2 m3 m4 (by omega) n1 n2 n3 n4 g6 g7 g1 g2 g4 g3 m5 g8 (by omega) (w64s hge (by omega)) g5
      · have := ih _ _ (by omega) (bs2 (by omega)) (by omega)
        rw [f1, f2] at this
        rw [← this]
        congr 1
        exact s90hn (64 + j) d ah al qh ql rr _ _ _ j _ b _ _ _ c _ _ 0 0 m1 m2 m3 m4 (by omega) n1 n2 n3 n4 g6 g7 g1 g2 g4 g3 m5 g8 (by omega)
    · rw [bit_lo (by omega)] at hb
      have him : i % 64 = i := Nat.mod_eq_of_lt (by omega)
      rw [him] at m1 m2 m3 m4
      rw [hb] at m4
      by_cases hge : d ≤ 2 * rr + b
      · obtain ⟨k1, k2⟩ := bs1 hge
        have := ih _ _ (by omega) k1 k2
        rw [f3, f4] at this
        rw [← this]
        congr 1
        exact s90ls i d ah al qh ql rr _ _ b 0 0 b _ _ _ c _ _ _ _ m1 m2 m3 m4 (by omega) rfl g6 g7 g1 g2 g4 g3 m5 g8 (by omega) (w64s hge (by omega)) g5
      · have := ih _ _ (by omega) (bs2 (by omega)) (by omega)
        rw [f1, f2] at this
        rw [← this]
        congr 1
        exact s90ln i d ah al qh ql rr _ _ b 0 0 b _ _ _ c _ _ 0 0 m1 m2 m3 m4 (by omega) rfl g6 g7 g1 g2 g4 g3 m5 g8 (by omega)
theorem v90 (n d : Nat) (hd : 0 < d) (hdb : d < 9223372036854775808) (hn : n < 18446744073709551616 * 18446744073709551616) : FnF TT 90 [W2 n, .int .i64 d] (.tup [W2 (n / d), .int .i64 (n % d : Nat)]) := by
  obtain ⟨h, l, rfl, hl⟩ := W2_split n
  have hh : h < 18446744073709551616 := W2_h (l := l) hn
  have := l90 d h l hd hdb hh hl 128 0 0 (Nat.le_refl _) (by
    rw [show (2 : Nat) ^ 128 = 18446744073709551616 * 18446744073709551616 from rfl, Nat.div_eq_of_lt hn, Nat.zero_mul]) hd
  rw [W2_of hl]
  refine FnF.mkv (c := b90) fn90 rfl md90 (ex1 ?_) (fun _ => rfl)
  rw [a90]
  exact this

theorem k48 (n d m g : Nat) (z q1 q2 : Int) (hd : 0 < d) (hw : wrapA .i64 (-z) = -z) (c1 : ∀ σ, callI TT 75 [.int .i64 z, .int .i64 (-z)] σ = some (.int .i64 m, σ)) (c2 : ∀ σ, callI TT 74 [.int .i64 m, .int .i64 d] σ = some (.int .i64 g, σ)) (hg : 0 < g) (w1 : wrapA .i64 (z.tdiv (g : Int)) = q1) (w2 : wrapA .i64 ((d : Int) / (g : Int)) = q2) :
    ∃ σ1, exI TT (FI.of Tryz.f48 (TT.an 48)) [.code (Tryz.f48.body.getD .skip)] (paramsE 0 [.int .i64 z, .int .i64 d]) ⟨[], 0⟩ = some (.agg [.int .i64 q1, .int .i64 q2], σ1) := by
  have hg0 : ¬ (g : Int) = 0 := by omega
  refine ex1 ?_
  rw [fi48]
  simp only [Tryz.f48, Option.getD]
  simp (maxSteps := 1000000) (disch := omega) [cellsAt, getCells, takeN, dropN, fieldAddrA, allOne, AV.one, n_push, storeCellsA, putN, overN, St.push, St.get, St.set, hget, hset, blt_dec, buildA, sizesOf, fillA, putCells, List.take_succ_cons, List.take_zero, List.drop_succ_cons, List.drop_zero, List.nil_append, List.cons_append, List.length_cons, List.length_nil, eqvs_dgs, hw, c1, c2, w1, w2, hg0]
theorem mk_parts (n : Int) {d : Nat} (hd : d ≠ 0) : (mkRat n d).num = n.tdiv ((Nat.gcd n.natAbs d : Nat) : Int) ∧ (mkRat n d).den = d / Nat.gcd n.natAbs d := by
  rw [Rat.num_mkRat, Rat.den_mkRat, if_neg hd, if_neg hd, Nat.gcd_comm]
  refine ⟨?_, rfl⟩
  rw [Int.tdiv_eq_ediv_of_dvd]
  exact Int.dvd_natAbs.1 (Int.natCast_dvd_natCast.2 (Nat.gcd_dvd_left _ _))
theorem v48 (n : Int) (d : Nat) (h : -9223372036854775807 ≤ n) (h2 : n ≤ 9223372036854775807) (hd : 0 < d) (hd2 : d ≤ 9223372036854775807) : FnV TT 48 [.int .i64 n, .int .i64 d] (.agg [.int .i64 (mkRat n d).num, .int .i64 (mkRat n d).den]) := by
  obtain ⟨e1, e2⟩ := mk_parts n (d := d) (by omega)
  have hg : 0 < Nat.gcd n.natAbs d := Nat.gcd_pos_of_pos_right _ hd
  have hb : (n.tdiv ((Nat.gcd n.natAbs d : Nat) : Int)).natAbs ≤ n.natAbs := by rw [Int.natAbs_tdiv]; exact Nat.div_le_self _ _
  have hb2 : d / Nat.gcd n.natAbs d ≤ d := Nat.div_le_self _ _
  have w2 : wrapA .i64 ((d : Int) / ((Nat.gcd n.natAbs d : Nat) : Int)) = ((d / Nat.gcd n.natAbs d : Nat) : Int) := by rw [← Int.natCast_ediv]; exact wi64 (by omega)
  rw [e1, e2]
  exact FnV.mk fn48 rfl md48 (k48 d d n.natAbs (Nat.gcd n.natAbs d) n _ _ hd (wrapA_id (by omega) (by omega)) (fun σ => v75a n σ _ rfl) (fun σ => v74 n.natAbs d σ _ rfl) hg (wrapA_id (by omega) (by omega)) w2) (fun _ => rfl) rfl

noncomputable def b104 : Code := Tryz.f104.body.getD .skip
noncomputable def B104_0 : Code := (bodyC (bodyC (fstC (sndC b104))))
noncomputable def K104_0 : List It := .lp B104_0 :: .blk 0 :: .code (sndC (sndC b104)) :: []
theorem xl104_0 {fi : FI} {env : Env} {σ : St} : exI TT fi K104_0 env σ = exI TT fi (.code B104_0 :: K104_0) env σ := by unfold K104_0; exact xI_lp
noncomputable def R104_0_0 : List It := .code (sndC (sndC b104)) :: []
theorem eK104_0_0 : exitA 0 K104_0 = some R104_0_0 := rfl
theorem st104 (a b c : Nat) (σ : St) (hb : 0 < b) (hc : (a : Int).tmod (b : Int) = (c : Int)) :
    exI TT (FI.of Tryz.f104 (TT.an 104)) K104_0 [(0, .int .i64 a), (1, .int .i64 b)] σ = exI TT (FI.of Tryz.f104 (TT.an 104)) K104_0 [(0, .int .i64 b), (1, .int .i64 c)] σ := by
  have hb2 : ¬ (b : Int) = 0 := by omega
  rw [fi104]
  conv => lhs; rw [xl104_0]
  simp only [B104_0, b104, Tryz.f104, Option.getD, fstC, sndC, bodyC, thnC, elsC]
  simp (maxSteps := 1000000) (disch := omega) [eK104_0_0, hc, hb2]
theorem en104 (a : Nat) (σ : St) : exI TT (FI.of Tryz.f104 (TT.an 104)) K104_0 [(0, .int .i64 a), (1, .int .i64 0)] σ = some (.int .i64 a, σ) := by
  rw [fi104, xl104_0]
  simp only [B104_0, b104, Tryz.f104, Option.getD, fstC, sndC, bodyC, thnC, elsC]
  simp (maxSteps := 1000000) (disch := omega) [eK104_0_0]
  simp only [R104_0_0, b104, Tryz.f104, Option.getD, fstC, sndC, bodyC, thnC, elsC]
  simp (maxSteps := 1000000) (disch := omega) [eK104_0_0]
theorem l104 (σ : St) : ∀ (b a : Nat), exI TT (FI.of Tryz.f104 (TT.an 104)) K104_0 [(0, .int .i64 a), (1, .int .i64 b)] σ = some (.int .i64 (Nat.gcd a b : Nat), σ) := by
  intro b
  induction b using Nat.strongRecOn with
  | ind b ih =>
    intro a
    rcases Nat.eq_zero_or_pos b with rfl | hpos
    · rw [Nat.gcd_zero_right]
      exact en104 _ σ
    · have h := ih (a % b) (Nat.mod_lt _ hpos) b
      rw [gcd_step a b hpos, ← h]
      exact st104 a b (a % b) σ hpos rfl
theorem v104 (a b : Nat) : FnV TT 104 [.int .i64 a, .int .i64 b] (.int .i64 (Nat.gcd a b : Nat)) := by
  have h := l104 ⟨[], 0⟩ b a
  refine FnV.mk fn104 rfl md104 ⟨⟨[], 0⟩, ?_⟩ (fun _ => rfl) rfl
  rw [← h, fi104]
  simp (maxSteps := 1000000) (disch := omega) [eK104_0_0]
  rfl

theorem v49 (n a b : Int) : FnV TT 49 [.int .i64 n, .int .i64 a, .int .i64 b] (.bool (decide (a ≤ n) && decide (n ≤ b))) := by
  refine FnV.mk (c := Tryz.f49.body.getD .skip) fn49 rfl md49 (ex1 ?_) (fun _ => rfl) rfl
  rw [fi49]
  simp only [Tryz.f49, Option.getD]
  by_cases h : a ≤ n
  · by_cases h2 : n ≤ b
    · rw [decide_eq_true h, decide_eq_true h2]
      simp (maxSteps := 1000000) (disch := omega) [cellsAt, getCells, takeN, dropN, fieldAddrA, allOne, AV.one, n_push, storeCellsA, putN, overN, St.push, St.get, St.set, hget, hset, blt_dec, buildA, sizesOf, fillA, putCells, List.take_succ_cons, List.take_zero, List.drop_succ_cons, List.drop_zero, List.nil_append, List.cons_append, List.length_cons, List.length_nil, eqvs_dgs]
    · rw [decide_eq_true h, decide_eq_false h2]
      simp (maxSteps := 1000000) (disch := omega) [cellsAt, getCells, takeN, dropN, fieldAddrA, allOne, AV.one, n_push, storeCellsA, putN, overN, St.push, St.get, St.set, hget, hset, blt_dec, buildA, sizesOf, fillA, putCells, List.take_succ_cons, List.take_zero, List.drop_succ_cons, List.drop_zero, List.nil_append, List.cons_append, List.length_cons, List.length_nil, eqvs_dgs]
  · rw [decide_eq_false h]
    simp (maxSteps := 1000000) (disch := omega) [cellsAt, getCells, takeN, dropN, fieldAddrA, allOne, AV.one, n_push, storeCellsA, putN, overN, St.push, St.get, St.set, hget, hset, blt_dec, buildA, sizesOf, fillA, putCells, List.take_succ_cons, List.take_zero, List.drop_succ_cons, List.drop_zero, List.nil_append, List.cons_append, List.length_cons, List.length_nil, eqvs_dgs]

set_option maxHeartbeats 4000000 in
theorem k94t (n d : Int) (m k : Nat) (c1 : ∀ σ, callI TT 49 [.int .i64 d, .int .i64 1, .int .i64 1000000000000000000] σ = some (.bool true, σ)) (c2 : ∀ σ, callI TT 49 [.int .i64 n, .int .i64 (-1000000000000000000), .int .i64 1000000000000000000] σ = some (.bool true, σ)) (c3 : ∀ σ, callI TT 63 [.int .i64 n] σ = some (.int .i64 m, σ)) (c4 : ∀ σ, callI TT 104 [.int .i64 m, .int .i64 d] σ = some (.int .i64 k, σ)) (q : Bool) (hk : decide ((k : Int) = 1) = q) :
    ∃ σ1, exI TT (FI.of Tryz.f94 (TT.an 94)) [.code (Tryz.f94.body.getD .skip)] (paramsE 0 [.agg [.int .i64 n, .int .i64 d]]) ⟨[], 0⟩ = some (.bool q, σ1) := by
  refine ex1 ?_
  rw [fi94]
  simp only [Tryz.f94, Option.getD]
  subst hk
  simp (maxSteps := 1000000) (disch := omega) [-ieqb_t, -ieqb_f, -ieqb_self, cellsAt, getCells, takeN, dropN, fieldAddrA, allOne, AV.one, n_push, storeCellsA, putN, overN, St.push, St.get, St.set, hget, hset, blt_dec, buildA, sizesOf, fillA, putCells, List.take_succ_cons, List.take_zero, List.drop_succ_cons, List.drop_zero, List.nil_append, List.cons_append, List.length_cons, List.length_nil, eqvs_dgs, c1, c2, c3, c4, ieqb_dec]
set_option maxHeartbeats 4000000 in
theorem k94f (n d : Int) (b1 b2 : Bool) (c1 : ∀ σ, callI TT 49 [.int .i64 d, .int .i64 1, .int .i64 1000000000000000000] σ = some (.bool b1, σ)) (c2 : ∀ σ, callI TT 49 [.int .i64 n, .int .i64 (-1000000000000000000), .int .i64 1000000000000000000] σ = some (.bool b2, σ)) (h : (b1 && b2) = false) :
    ∃ σ1, exI TT (FI.of Tryz.f94 (TT.an 94)) [.code (Tryz.f94.body.getD .skip)] (paramsE 0 [.agg [.int .i64 n, .int .i64 d]]) ⟨[], 0⟩ = some (.bool false, σ1) := by
  refine ex1 ?_
  rw [fi94]
  simp only [Tryz.f94, Option.getD]
  cases b1
  ·
    simp (maxSteps := 1000000) (disch := omega) [cellsAt, getCells, takeN, dropN, fieldAddrA, allOne, AV.one, n_push, storeCellsA, putN, overN, St.push, St.get, St.set, hget, hset, blt_dec, buildA, sizesOf, fillA, putCells, List.take_succ_cons, List.take_zero, List.drop_succ_cons, List.drop_zero, List.nil_append, List.cons_append, List.length_cons, List.length_nil, eqvs_dgs, c1, c2]
  · cases b2
    ·
      simp (maxSteps := 1000000) (disch := omega) [cellsAt, getCells, takeN, dropN, fieldAddrA, allOne, AV.one, n_push, storeCellsA, putN, overN, St.push, St.get, St.set, hget, hset, blt_dec, buildA, sizesOf, fillA, putCells, List.take_succ_cons, List.take_zero, List.drop_succ_cons, List.drop_zero, List.nil_append, List.cons_append, List.length_cons, List.length_nil, eqvs_dgs, c1, c2]
    · exact absurd h (by decide)
theorem v94 (n d : Int) : FnV TT 94 [.agg [.int .i64 n, .int .i64 d]] (.bool (vfr n d)) := by
  have c1 := fun σ : St => v49 d 1 1000000000000000000 σ [.int .i64 d, .int .i64 1, .int .i64 1000000000000000000] rfl
  have c2 := fun σ : St => v49 n (-1000000000000000000) 1000000000000000000 σ [.int .i64 n, .int .i64 (-1000000000000000000), .int .i64 1000000000000000000] rfl
  by_cases h1 : 1 ≤ d ∧ d ≤ 1000000000000000000 ∧ -1000000000000000000 ≤ n ∧ n ≤ 1000000000000000000
  · obtain ⟨h1, h2, h3, h4⟩ := h1
    have hd : d = ((d.toNat : Nat) : Int) := by omega
    have e : vfr n d = decide (((Nat.gcd n.natAbs d.toNat : Nat) : Int) = 1) := by
      have hb : Nat.beq (Nat.gcd n.natAbs d.toNat) 1 = decide (((Nat.gcd n.natAbs d.toNat : Nat) : Int) = 1) := by
        by_cases h : Nat.gcd n.natAbs d.toNat = 1
        · rw [h]; rfl
        · rw [decide_eq_false (by omega)]
          cases hx : Nat.beq (Nat.gcd n.natAbs d.toNat) 1 with
          | false => rfl
          | true => exact absurd (Nat.eq_of_beq_eq_true hx) h
      simp [vfr, h1, h2, h3, h4, hb]
    rw [decide_eq_true h1, decide_eq_true h2] at c1
    rw [decide_eq_true h3, decide_eq_true h4] at c2
    have c4 := fun σ : St => v104 n.natAbs d.toNat σ [.int .i64 (n.natAbs : Nat), .int .i64 (d.toNat : Nat)] rfl
    rw [← hd] at c4
    exact FnV.mk fn94 rfl md94 (k94t n d n.natAbs (Nat.gcd n.natAbs d.toNat) c1 c2 (fun σ => v63 n (by omega) (by omega) σ _ rfl) c4 _ e.symm) (fun _ => rfl) rfl
  · have e : vfr n d = false := by
      cases h : vfr n d with
      | false => rfl
      | true =>
        simp only [vfr, Bool.and_eq_true, decide_eq_true_eq] at h
        exact absurd ⟨h.1, h.2.1, h.2.2.1, h.2.2.2.1⟩ h1
    rw [e]
    refine FnV.mk fn94 rfl md94 (k94f n d _ _ c1 c2 ?_) (fun _ => rfl) rfl
    cases hx : (decide (1 ≤ d) && decide (d ≤ 1000000000000000000) && (decide (-1000000000000000000 ≤ n) && decide (n ≤ 1000000000000000000))) with
    | false => rfl
    | true =>
      simp only [Bool.and_eq_true, decide_eq_true_eq] at hx
      exact absurd ⟨hx.1.1, hx.1.2, hx.2.1, hx.2.2⟩ h1

set_option maxHeartbeats 4000000 in
theorem k68t (n d : Int) (m k : Nat) (c1 : ∀ σ, callI TT 85 [.int .i64 d, .int .i64 1, .int .i64 1000000000000000000] σ = some (.bool true, σ)) (c2 : ∀ σ, callI TT 85 [.int .i64 n, .int .i64 (-1000000000000000000), .int .i64 1000000000000000000] σ = some (.bool true, σ)) (hw : wrapA .i64 (-n) = -n) (c3 : ∀ σ, callI TT 75 [.int .i64 n, .int .i64 (-n)] σ = some (.int .i64 m, σ)) (c4 : ∀ σ, callI TT 74 [.int .i64 m, .int .i64 d] σ = some (.int .i64 k, σ)) (q : Bool) (hk : decide ((k : Int) = 1) = q) :
    ∃ σ1, exI TT (FI.of Tryz.f68 (TT.an 68)) [.code (Tryz.f68.body.getD .skip)] (paramsE 0 [.agg [.int .i64 n, .int .i64 d]]) ⟨[], 0⟩ = some (.bool q, σ1) := by
  refine ex1 ?_
  rw [fi68]
  simp only [Tryz.f68, Option.getD]
  subst hk
  simp (maxSteps := 1000000) (disch := omega) [-ieqb_t, -ieqb_f, -ieqb_self, cellsAt, getCells, takeN, dropN, fieldAddrA, allOne, AV.one, n_push, storeCellsA, putN, overN, St.push, St.get, St.set, hget, hset, blt_dec, buildA, sizesOf, fillA, putCells, List.take_succ_cons, List.take_zero, List.drop_succ_cons, List.drop_zero, List.nil_append, List.cons_append, List.length_cons, List.length_nil, eqvs_dgs, c1, c2, c3, c4, hw, ieqb_dec]
set_option maxHeartbeats 4000000 in
theorem k68f (n d : Int) (b1 b2 : Bool) (c1 : ∀ σ, callI TT 85 [.int .i64 d, .int .i64 1, .int .i64 1000000000000000000] σ = some (.bool b1, σ)) (c2 : ∀ σ, callI TT 85 [.int .i64 n, .int .i64 (-1000000000000000000), .int .i64 1000000000000000000] σ = some (.bool b2, σ)) (h : (b1 && b2) = false) :
    ∃ σ1, exI TT (FI.of Tryz.f68 (TT.an 68)) [.code (Tryz.f68.body.getD .skip)] (paramsE 0 [.agg [.int .i64 n, .int .i64 d]]) ⟨[], 0⟩ = some (.bool false, σ1) := by
  refine ex1 ?_
  rw [fi68]
  simp only [Tryz.f68, Option.getD]
  cases b1
  ·
    simp (maxSteps := 1000000) (disch := omega) [cellsAt, getCells, takeN, dropN, fieldAddrA, allOne, AV.one, n_push, storeCellsA, putN, overN, St.push, St.get, St.set, hget, hset, blt_dec, buildA, sizesOf, fillA, putCells, List.take_succ_cons, List.take_zero, List.drop_succ_cons, List.drop_zero, List.nil_append, List.cons_append, List.length_cons, List.length_nil, eqvs_dgs, c1, c2]
  · cases b2
    ·
      simp (maxSteps := 1000000) (disch := omega) [cellsAt, getCells, takeN, dropN, fieldAddrA, allOne, AV.one, n_push, storeCellsA, putN, overN, St.push, St.get, St.set, hget, hset, blt_dec, buildA, sizesOf, fillA, putCells, List.take_succ_cons, List.take_zero, List.drop_succ_cons, List.drop_zero, List.nil_append, List.cons_append, List.length_cons, List.length_nil, eqvs_dgs, c1, c2]
    · exact absurd h (by decide)
theorem v68 (n d : Int) : FnV TT 68 [.agg [.int .i64 n, .int .i64 d]] (.bool (vfr n d)) := by
  have c1 := fun σ : St => v85 d 1 1000000000000000000 σ [.int .i64 d, .int .i64 1, .int .i64 1000000000000000000] rfl
  have c2 := fun σ : St => v85 n (-1000000000000000000) 1000000000000000000 σ [.int .i64 n, .int .i64 (-1000000000000000000), .int .i64 1000000000000000000] rfl
  by_cases h1 : 1 ≤ d ∧ d ≤ 1000000000000000000 ∧ -1000000000000000000 ≤ n ∧ n ≤ 1000000000000000000
  · obtain ⟨h1, h2, h3, h4⟩ := h1
    have hd : d = ((d.toNat : Nat) : Int) := by omega
    have e : vfr n d = decide (((Nat.gcd n.natAbs d.toNat : Nat) : Int) = 1) := by
      have hb : Nat.beq (Nat.gcd n.natAbs d.toNat) 1 = decide (((Nat.gcd n.natAbs d.toNat : Nat) : Int) = 1) := by
        by_cases h : Nat.gcd n.natAbs d.toNat = 1
        · rw [h]; rfl
        · rw [decide_eq_false (by omega)]
          cases hx : Nat.beq (Nat.gcd n.natAbs d.toNat) 1 with
          | false => rfl
          | true => exact absurd (Nat.eq_of_beq_eq_true hx) h
      simp [vfr, h1, h2, h3, h4, hb]
    rw [decide_eq_true h1, decide_eq_true h2] at c1
    rw [decide_eq_true h3, decide_eq_true h4] at c2
    have c4 := fun σ : St => v74 n.natAbs d.toNat σ [.int .i64 (n.natAbs : Nat), .int .i64 (d.toNat : Nat)] rfl
    rw [← hd] at c4
    exact FnV.mk fn68 rfl md68 (k68t n d n.natAbs (Nat.gcd n.natAbs d.toNat) c1 c2 (wrapA_id (by omega) (by omega)) (fun σ => v75a n σ _ rfl) c4 _ e.symm) (fun _ => rfl) rfl
  · have e : vfr n d = false := by
      cases h : vfr n d with
      | false => rfl
      | true =>
        simp only [vfr, Bool.and_eq_true, decide_eq_true_eq] at h
        exact absurd ⟨h.1, h.2.1, h.2.2.1, h.2.2.2.1⟩ h1
    rw [e]
    refine FnV.mk fn68 rfl md68 (k68f n d _ _ c1 c2 ?_) (fun _ => rfl) rfl
    cases hx : (decide (1 ≤ d) && decide (d ≤ 1000000000000000000) && (decide (-1000000000000000000 ≤ n) && decide (n ≤ 1000000000000000000))) with
    | false => rfl
    | true =>
      simp only [Bool.and_eq_true, decide_eq_true_eq] at hx
      exact absurd ⟨hx.1.1, hx.1.2, hx.2.1, hx.2.2⟩ h1

set_option maxHeartbeats 4000000 in
theorem k70 (n1 n2 d1 d2 : Int) (m1 m2 : Nat) (xh xl yh yl : Int) (b1 b2 p q : Bool) (hs1 : (!ileb 0 n1) = b1) (hs2 : (!ileb 0 n2) = b2) (hw1 : wrapA .i64 (-n1) = -n1) (hw2 : wrapA .i64 (-n2) = -n2) (c1 : ∀ σ, callI TT 75 [.int .i64 n1, .int .i64 (-n1)] σ = some (.int .i64 m1, σ)) (c2 : ∀ σ, callI TT 75 [.int .i64 n2, .int .i64 (-n2)] σ = some (.int .i64 m2, σ))
    (c3 : ∀ σ, callI TT 86 [.int .i64 m1, .int .i64 d2] σ = some (.agg [.int .u64 xh, .int .u64 xl], σ)) (c4 : ∀ σ, callI TT 86 [.int .i64 m2, .int .i64 d1] σ = some (.agg [.int .u64 yh, .int .u64 yl], σ)) (c5 : ∀ σ, callI TT 88 [.agg [.int .u64 xh, .int .u64 xl], .agg [.int .u64 yh, .int .u64 yl]] σ = some (.bool p, σ)) (c6 : ∀ σ, callI TT 88 [.agg [.int .u64 yh, .int .u64 yl], .agg [.int .u64 xh, .int .u64 xl]] σ = some (.bool q, σ)) :
    ∃ σ1, exI TT (FI.of Tryz.f70 (TT.an 70)) [.code (Tryz.f70.body.getD .skip)] (paramsE 0 [.agg [.int .i64 n1, .int .i64 d1], .agg [.int .i64 n2, .int .i64 d2]]) ⟨[], 0⟩ = some (.int .i64 (if b1 = true then (if b2 = true then (if q = true then -1 else if p = true then 1 else 0) else -1) else (if b2 = true then 1 else (if q = true then 1 else if p = true then -1 else 0))), σ1) := by
  have hz0 : wrapA .i64 0 = 0 := by decide
  have hz1 : wrapA .i64 1 = 1 := by decide
  have hz2 : wrapA .i64 (-1) = -1 := by decide
  refine ex1 ?_
  rw [fi70]
  simp only [Tryz.f70, Option.getD]
  cases b1 <;> cases b2
  · cases p <;> cases q <;>
      simp (maxSteps := 1000000) (disch := omega) [cellsAt, getCells, takeN, dropN, fieldAddrA, allOne, AV.one, n_push, storeCellsA, putN, overN, St.push, St.get, St.set, hget, hset, blt_dec, buildA, sizesOf, fillA, putCells, List.take_succ_cons, List.take_zero, List.drop_succ_cons, List.drop_zero, List.nil_append, List.cons_append, List.length_cons, List.length_nil, eqvs_dgs, hs1, hs2, hw1, hw2, c1, c2, c3, c4, c5, c6]
  ·
    simp (maxSteps := 1000000) (disch := omega) [cellsAt, getCells, takeN, dropN, fieldAddrA, allOne, AV.one, n_push, storeCellsA, putN, overN, St.push, St.get, St.set, hget, hset, blt_dec, buildA, sizesOf, fillA, putCells, List.take_succ_cons, List.take_zero, List.drop_succ_cons, List.drop_zero, List.nil_append, List.cons_append, List.length_cons, List.length_nil, eqvs_dgs, hs1, hs2, hw1, hw2, c1, c2, c3, c4, c5, c6]
  ·
    simp (maxSteps := 1000000) (disch := omega) [cellsAt, getCells, takeN, dropN, fieldAddrA, allOne, AV.one, n_push, storeCellsA, putN, overN, St.push, St.get, St.set, hget, hset, blt_dec, buildA, sizesOf, fillA, putCells, List.take_succ_cons, List.take_zero, List.drop_succ_cons, List.drop_zero, List.nil_append, List.cons_append, List.length_cons, List.length_nil, eqvs_dgs, hs1, hs2, hw1, hw2, c1, c2, c3, c4, c5, c6]
  · cases p <;> cases q <;>
      simp (maxSteps := 1000000) (disch := omega) [cellsAt, getCells, takeN, dropN, fieldAddrA, allOne, AV.one, n_push, storeCellsA, putN, overN, St.push, St.get, St.set, hget, hset, blt_dec, buildA, sizesOf, fillA, putCells, List.take_succ_cons, List.take_zero, List.drop_succ_cons, List.drop_zero, List.nil_append, List.cons_append, List.length_cons, List.length_nil, eqvs_dgs, hs1, hs2, hw1, hw2, c1, c2, c3, c4, c5, c6, hz0, hz1, hz2]
theorem vfr_b {n d : Int} (h : vfr n d = true) : 1 ≤ d ∧ d ≤ 1000000000000000000 ∧ -1000000000000000000 ≤ n ∧ n ≤ 1000000000000000000 := by
  simp only [vfr, Bool.and_eq_true, decide_eq_true_eq] at h
  exact ⟨h.1, h.2.1, h.2.2.1, h.2.2.2.1⟩
theorem cmpR_of {p q : Rat} {z : Int} (h1 : q < p → z = 1) (h2 : p < q → z = -1) (h3 : p = q → z = 0) : z = cmpR p q := by
  have hp := cmpR_pos (p := p) (q := q)
  have hz := cmpR_zero (p := p) (q := q)
  unfold cmpR at *
  split
  · rename_i h
    rw [if_pos h] at hz
    exact h3 (hz.1 rfl)
  · rename_i h
    split
    · rename_i h4
      rw [if_neg h, if_pos h4] at hp hz
      refine h2 (Rat.lt_of_le_of_ne (Rat.not_lt.1 fun hh => by have := hp.2 hh; omega) fun e => by have := hz.2 e; omega)
    · rename_i h4
      rw [if_neg h, if_neg h4] at hp
      exact h1 (hp.1 (by decide))
theorem v70 {n1 d1 n2 d2 : Int} (h1 : vfr n1 d1 = true) (h2 : vfr n2 d2 = true) : FnV TT 70 [.agg [.int .i64 n1, .int .i64 d1], .agg [.int .i64 n2, .int .i64 d2]] (.int .i64 (cmpR (mkRat n1 d1.toNat) (mkRat n2 d2.toNat))) := by
  obtain ⟨a1, a2, a3, a4⟩ := vfr_b h1
  obtain ⟨b1, b2, b3, b4⟩ := vfr_b h2
  obtain ⟨p1, p2, _⟩ := vfr_rat h1
  obtain ⟨q1, q2, _⟩ := vfr_rat h2
  obtain ⟨D1, rfl⟩ : ∃ D1 : Nat, d1 = D1 := ⟨d1.toNat, by omega⟩
  obtain ⟨D2, rfl⟩ : ∃ D2 : Nat, d2 = D2 := ⟨d2.toNat, by omega⟩
  rw [Int.toNat_natCast] at p1 p2 q1 q2 ⊢
  rw [Int.toNat_natCast]
  have c3 := fun σ : St => (v86 n1.natAbs D2 (by omega) (by omega)).pure σ rfl rfl
  have c4 := fun σ : St => (v86 n2.natAbs D1 (by omega) (by omega)).pure σ rfl rfl
  have c5 := fun σ : St => v88 (n1.natAbs * D2) (n2.natAbs * D1) σ [W2 (n1.natAbs * D2), W2 (n2.natAbs * D1)] rfl
  have c6 := fun σ : St => v88 (n2.natAbs * D1) (n1.natAbs * D2) σ [W2 (n2.natAbs * D1), W2 (n1.natAbs * D2)] rfl
  have hk := k70 n1 n2 D1 D2 n1.natAbs n2.natAbs _ _ _ _ _ _ _ _ (ileb_neg n1) (ileb_neg n2) (wrapA_id (by omega) (by omega)) (wrapA_id (by omega) (by omega)) (fun σ => v75a n1 σ _ rfl) (fun σ => v75a n2 σ _ rfl) c3 c4 c5 c6
  have lt1 : mkRat n1 D1 < mkRat n2 D2 ↔ n1 * D2 < n2 * D1 := by rw [Rat.lt_iff, p1, q1, p2, q2]
  have lt2 : mkRat n2 D2 < mkRat n1 D1 ↔ n2 * D1 < n1 * D2 := by rw [Rat.lt_iff, p1, q1, p2, q2]
  have e1 : ((n1.natAbs * D2 : Nat) : Int) = (if n1 < 0 then -(n1 * D2) else n1 * D2) := by
    rw [Int.natCast_mul]
    split
    · rw [show ((n1.natAbs : Nat) : Int) = -n1 by omega, Int.neg_mul]
    · rw [show ((n1.natAbs : Nat) : Int) = n1 by omega]
  have e2 : ((n2.natAbs * D1 : Nat) : Int) = (if n2 < 0 then -(n2 * D1) else n2 * D1) := by
    rw [Int.natCast_mul]
    split
    · rw [show ((n2.natAbs : Nat) : Int) = -n2 by omega, Int.neg_mul]
    · rw [show ((n2.natAbs : Nat) : Int) = n2 by omega]
  have s1 : n1 < 0 → n1 * D2 < 0 := fun h => Int.mul_neg_of_neg_of_pos h (by omega)
  have s2 : ¬ n1 < 0 → 0 ≤ n1 * D2 := fun h => Int.mul_nonneg (by omega) (by omega)
  have s3 : n2 < 0 → n2 * D1 < 0 := fun h => Int.mul_neg_of_neg_of_pos h (by omega)
  have s4 : ¬ n2 < 0 → 0 ≤ n2 * D1 := fun h => Int.mul_nonneg (by omega) (by omega)
  have ne : mkRat n1 D1 = mkRat n2 D2 → n1 * D2 = n2 * D1 := fun e => by
    have h3 : ¬ n1 * D2 < n2 * D1 := fun h => by have := lt1.2 h; rw [e] at this; exact Rat.lt_irrefl this
    have h4 : ¬ n2 * D1 < n1 * D2 := fun h => by have := lt2.2 h; rw [e] at this; exact Rat.lt_irrefl this
    omega
  refine FnV.mk (c := Tryz.f70.body.getD .skip) fn70 rfl md70 ?_ (fun _ => rfl) rfl
  generalize n1.natAbs * D2 = X at *
  generalize n2.natAbs * D1 = Y at *
  generalize n1 * (D2 : Int) = u at *
  generalize n2 * (D1 : Int) = v at *
  obtain ⟨σ1, hk⟩ := hk
  refine ⟨σ1, ?_⟩
  rw [hk]
  congr 3
  refine cmpR_of (fun h => ?_) (fun h => ?_) (fun h => ?_)
  · have h := lt2.1 h
    by_cases t1 : n1 < 0
    · have x1 := s1 t1
      rw [if_pos t1] at e1
      by_cases t2 : n2 < 0
      · have x2 := s3 t2
        rw [if_pos t2] at e2
        by_cases t3 : Y < X <;> by_cases t4 : X < Y <;> simp [t1, t2, t3, t4] <;> omega
      · have x2 := s4 t2
        rw [if_neg t2] at e2
        simp [t1, t2] <;> omega
    · have x1 := s2 t1
      rw [if_neg t1] at e1
      by_cases t2 : n2 < 0
      · have x2 := s3 t2
        rw [if_pos t2] at e2
        simp [t1, t2] <;> omega
      · have x2 := s4 t2
        rw [if_neg t2] at e2
        by_cases t3 : Y < X <;> by_cases t4 : X < Y <;> simp [t1, t2, t3, t4] <;> omega
  · have h := lt1.1 h
    by_cases t1 : n1 < 0
    · have x1 := s1 t1
      rw [if_pos t1] at e1
      by_cases t2 : n2 < 0
      · have x2 := s3 t2
        rw [if_pos t2] at e2
        by_cases t3 : Y < X <;> by_cases t4 : X < Y <;> simp [t1, t2, t3, t4] <;> omega
      · have x2 := s4 t2
        rw [if_neg t2] at e2
        simp [t1, t2] <;> omega
    · have x1 := s2 t1
      rw [if_neg t1] at e1
      by_cases t2 : n2 < 0
      · have x2 := s3 t2
        rw [if_pos t2] at e2
        simp [t1, t2] <;> omega
      · have x2 := s4 t2
        rw [if_neg t2] at e2
        by_cases t3 : Y < X <;> by_cases t4 : X < Y <;> simp [t1, t2, t3, t4] <;> omega
  · have h := ne h
    by_cases t1 : n1 < 0
    · have x1 := s1 t1
      rw [if_pos t1] at e1
      by_cases t2 : n2 < 0
      · have x2 := s3 t2
        rw [if_pos t2] at e2
        by_cases t3 : Y < X <;> by_cases t4 : X < Y <;> simp [t1, t2, t3, t4] <;> omega
      · have x2 := s4 t2
        rw [if_neg t2] at e2
        simp [t1, t2] <;> omega
    · have x1 := s2 t1
      rw [if_neg t1] at e1
      by_cases t2 : n2 < 0
      · have x2 := s3 t2
        rw [if_pos t2] at e2
        simp [t1, t2] <;> omega
      · have x2 := s4 t2
        rw [if_neg t2] at e2
        by_cases t3 : Y < X <;> by_cases t4 : X < Y <;> simp [t1, t2, t3, t4] <;> omega

noncomputable def b69 : Code := Tryz.f69.body.getD .skip
noncomputable def R69_0 : Code := b69
noncomputable def R69_1 : Code := sndC (b69)
noncomputable def R69_2 : Code := sndC (sndC (b69))
noncomputable def R69_3 : Code := sndC (sndC (sndC (b69)))
noncomputable def R69_4 : Code := sndC (sndC (sndC (sndC (b69))))
noncomputable def R69_5 : Code := sndC (sndC (sndC (sndC (sndC (b69)))))
noncomputable def R69_6 : Code := sndC (sndC (sndC (sndC (sndC (sndC (b69))))))
noncomputable def R69_7 : Code := sndC (sndC (sndC (sndC (sndC (sndC (sndC (b69)))))))
theorem e69_0 : R69_0 = .seq (fstC (b69)) R69_1 := rfl
theorem e69_1 : R69_1 = .seq (fstC (sndC (b69))) R69_2 := rfl
theorem e69_2 : R69_2 = .seq (fstC (sndC (sndC (b69)))) R69_3 := rfl
theorem e69_3 : R69_3 = .seq (fstC (sndC (sndC (sndC (b69))))) R69_4 := rfl
theorem e69_4 : R69_4 = .seq (fstC (sndC (sndC (sndC (sndC (b69)))))) R69_5 := rfl
theorem e69_5 : R69_5 = .seq (fstC (sndC (sndC (sndC (sndC (sndC (b69))))))) R69_6 := rfl
theorem e69_6 : R69_6 = .seq (fstC (sndC (sndC (sndC (sndC (sndC (sndC (b69)))))))) R69_7 := rfl
set_option maxHeartbeats 8000000 in
theorem k69s (n1 n2 : Int) (d1 d2 m1 m2 d e1 e2 : Nat) (xh xl yh yl th tl : Int) (b1 b2 : Bool) (hs1 : (!ileb 0 n1) = b1) (hs2 : (!ileb 0 n2) = b2) (hw1 : wrapA .i64 (-n1) = -n1) (hw2 : wrapA .i64 (-n2) = -n2) (c1 : ∀ σ, callI TT 75 [.int .i64 n1, .int .i64 (-n1)] σ = some (.int .i64 m1, σ)) (c2 : ∀ σ, callI TT 75 [.int .i64 n2, .int .i64 (-n2)] σ = some (.int .i64 m2, σ)) (c0 : ∀ σ, callI TT 74 [.int .i64 d1, .int .i64 d2] σ = some (.int .i64 d, σ)) (hd : 0 < d) (q1 : wrapA .i64 ((d1 : Int) / (d : Int)) = e1) (q2 : wrapA .i64 ((d2 : Int) / (d : Int)) = e2) (c3 : ∀ σ, callI TT 86 [.int .i64 m1, .int .i64 e2] σ = some (.agg [.int .u64 xh, .int .u64 xl], σ)) (c4 : ∀ σ, callI TT 86 [.int .i64 m2, .int .i64 e1] σ = some (.agg [.int .u64 yh, .int .u64 yl], σ)) (hb : b1 = b2) (c5 : ∀ σ, callI TT 87 [.agg [.int .u64 xh, .int .u64 xl], .agg [.int .u64 yh, .int .u64 yl]] σ = some (.agg [.int .u64 th, .int .u64 tl], σ)) : exI TT (FI.of Tryz.f69 (TT.an 69)) [.code R69_0] (paramsE 0 [.agg [.int .i64 n1, .int .i64 (d1 : Nat)], .agg [.int .i64 n2, .int .i64 (d2 : Nat)]]) ⟨[], 0⟩ = exI TT (FI.of Tryz.f69 (TT.an 69)) [.code R69_7] [(2, .ptr 0 0), (3, .ptr 1 0), (4, .ptr 2 0), (6, .int .i64 d), (9, .bool b1), (10, .ptr 5 0)] ⟨[(5, ⟨[.int .u64 th, .int .u64 tl], 2, false⟩), (4, ⟨[.int .u64 yh, .int .u64 yl], 2, false⟩), (3, ⟨[.int .u64 xh, .int .u64 xl], 2, false⟩), (2, ⟨[.int .i64 0, .int .i64 0], 2, false⟩), (1, ⟨[.int .i64 n2, .int .i64 (d2 : Nat)], 2, false⟩), (0, ⟨[.int .i64 n1, .int .i64 (d1 : Nat)], 2, false⟩)], 6⟩ := by
  subst hb
  have hd0 : ¬ (d : Int) = 0 := by omega
  rw [fi69, e69_0, xI_seq, e69_1, e69_2, e69_3, e69_4, e69_5, e69_6]
  simp only [b69, Tryz.f69, Option.getD, fstC, sndC, bodyC, thnC, elsC]
  cases b1 <;>
  simp (maxSteps := 1000000) (disch := omega) [cellsAt, getCells, takeN, dropN, fieldAddrA, allOne, AV.one, n_push, storeCellsA, putN, overN, St.push, St.get, St.set, hget, hset, blt_dec, buildA, sizesOf, fillA, putCells, List.take_succ_cons, List.take_zero, List.drop_succ_cons, List.drop_zero, List.nil_append, List.cons_append, List.length_cons, List.length_nil, eqvs_dgs, hs1, hs2, hw1, hw2, c0, c1, c2, q1, q2, c3, c4, hd0, c5]
set_option maxHeartbeats 8000000 in
theorem k69l (n1 n2 : Int) (d1 d2 m1 m2 d e1 e2 : Nat) (xh xl yh yl th tl : Int) (b1 b2 : Bool) (hs1 : (!ileb 0 n1) = b1) (hs2 : (!ileb 0 n2) = b2) (hw1 : wrapA .i64 (-n1) = -n1) (hw2 : wrapA .i64 (-n2) = -n2) (c1 : ∀ σ, callI TT 75 [.int .i64 n1, .int .i64 (-n1)] σ = some (.int .i64 m1, σ)) (c2 : ∀ σ, callI TT 75 [.int .i64 n2, .int .i64 (-n2)] σ = some (.int .i64 m2, σ)) (c0 : ∀ σ, callI TT 74 [.int .i64 d1, .int .i64 d2] σ = some (.int .i64 d, σ)) (hd : 0 < d) (q1 : wrapA .i64 ((d1 : Int) / (d : Int)) = e1) (q2 : wrapA .i64 ((d2 : Int) / (d : Int)) = e2) (c3 : ∀ σ, callI TT 86 [.int .i64 m1, .int .i64 e2] σ = some (.agg [.int .u64 xh, .int .u64 xl], σ)) (c4 : ∀ σ, callI TT 86 [.int .i64 m2, .int .i64 e1] σ = some (.agg [.int .u64 yh, .int .u64 yl], σ)) (hb : b1 ≠ b2) (c6 : ∀ σ, callI TT 88 [.agg [.int .u64 xh, .int .u64 xl], .agg [.int .u64 yh, .int .u64 yl]] σ = some (.bool true, σ)) (c5 : ∀ σ, callI TT 89 [.agg [.int .u64 yh, .int .u64 yl], .agg [.int .u64 xh, .int .u64 xl]] σ = some (.agg [.int .u64 th, .int .u64 tl], σ)) : exI TT (FI.of Tryz.f69 (TT.an 69)) [.code R69_0] (paramsE 0 [.agg [.int .i64 n1, .int .i64 (d1 : Nat)], .agg [.int .i64 n2, .int .i64 (d2 : Nat)]]) ⟨[], 0⟩ = exI TT (FI.of Tryz.f69 (TT.an 69)) [.code R69_7] [(2, .ptr 0 0), (3, .ptr 1 0), (4, .ptr 2 0), (6, .int .i64 d), (9, .bool b2), (10, .ptr 5 0)] ⟨[(5, ⟨[.int .u64 th, .int .u64 tl], 2, false⟩), (4, ⟨[.int .u64 yh, .int .u64 yl], 2, false⟩), (3, ⟨[.int .u64 xh, .int .u64 xl], 2, false⟩), (2, ⟨[.int .i64 0, .int .i64 0], 2, false⟩), (1, ⟨[.int .i64 n2, .int .i64 (d2 : Nat)], 2, false⟩), (0, ⟨[.int .i64 n1, .int .i64 (d1 : Nat)], 2, false⟩)], 6⟩ := by
  have hd0 : ¬ (d : Int) = 0 := by omega
  rw [fi69, e69_0, xI_seq, e69_1, e69_2, e69_3, e69_4, e69_5, e69_6]
  simp only [b69, Tryz.f69, Option.getD, fstC, sndC, bodyC, thnC, elsC]
  cases b1 <;> cases b2 <;> first | exact absurd rfl hb |
  simp (maxSteps := 1000000) (disch := omega) [cellsAt, getCells, takeN, dropN, fieldAddrA, allOne, AV.one, n_push, storeCellsA, putN, overN, St.push, St.get, St.set, hget, hset, blt_dec, buildA, sizesOf, fillA, putCells, List.take_succ_cons, List.take_zero, List.drop_succ_cons, List.drop_zero, List.nil_append, List.cons_append, List.length_cons, List.length_nil, eqvs_dgs, hs1, hs2, hw1, hw2, c0, c1, c2, q1, q2, c3, c4, hd0, c5, c6]
set_option maxHeartbeats 8000000 in
theorem k69g (n1 n2 : Int) (d1 d2 m1 m2 d e1 e2 : Nat) (xh xl yh yl th tl : Int) (b1 b2 : Bool) (hs1 : (!ileb 0 n1) = b1) (hs2 : (!ileb 0 n2) = b2) (hw1 : wrapA .i64 (-n1) = -n1) (hw2 : wrapA .i64 (-n2) = -n2) (c1 : ∀ σ, callI TT 75 [.int .i64 n1, .int .i64 (-n1)] σ = some (.int .i64 m1, σ)) (c2 : ∀ σ, callI TT 75 [.int .i64 n2, .int .i64 (-n2)] σ = some (.int .i64 m2, σ)) (c0 : ∀ σ, callI TT 74 [.int .i64 d1, .int .i64 d2] σ = some (.int .i64 d, σ)) (hd : 0 < d) (q1 : wrapA .i64 ((d1 : Int) / (d : Int)) = e1) (q2 : wrapA .i64 ((d2 : Int) / (d : Int)) = e2) (c3 : ∀ σ, callI TT 86 [.int .i64 m1, .int .i64 e2] σ = some (.agg [.int .u64 xh, .int .u64 xl], σ)) (c4 : ∀ σ, callI TT 86 [.int .i64 m2, .int .i64 e1] σ = some (.agg [.int .u64 yh, .int .u64 yl], σ)) (hb : b1 ≠ b2) (c6 : ∀ σ, callI TT 88 [.agg [.int .u64 xh, .int .u64 xl], .agg [.int .u64 yh, .int .u64 yl]] σ = some (.bool false, σ)) (c5 : ∀ σ, callI TT 89 [.agg [.int .u64 xh, .int .u64 xl], .agg [.int .u64 yh, .int .u64 yl]] σ = some (.agg [.int .u64 th, .int .u64 tl], σ)) : exI TT (FI.of Tryz.f69 (TT.an 69)) [.code R69_0] (paramsE 0 [.agg [.int .i64 n1, .int .i64 (d1 : Nat)], .agg [.int .i64 n2, .int .i64 (d2 : Nat)]]) ⟨[], 0⟩ = exI TT (FI.of Tryz.f69 (TT.an 69)) [.code R69_7] [(2, .ptr 0 0), (3, .ptr 1 0), (4, .ptr 2 0), (6, .int .i64 d), (9, .bool b1), (10, .ptr 5 0)] ⟨[(5, ⟨[.int .u64 th, .int .u64 tl], 2, false⟩), (4, ⟨[.int .u64 yh, .int .u64 yl], 2, false⟩), (3, ⟨[.int .u64 xh, .int .u64 xl], 2, false⟩), (2, ⟨[.int .i64 0, .int .i64 0], 2, false⟩), (1, ⟨[.int .i64 n2, .int .i64 (d2 : Nat)], 2, false⟩), (0, ⟨[.int .i64 n1, .int .i64 (d1 : Nat)], 2, false⟩)], 6⟩ := by
  have hd0 : ¬ (d : Int) = 0 := by omega
  rw [fi69, e69_0, xI_seq, e69_1, e69_2, e69_3, e69_4, e69_5, e69_6]
  simp only [b69, Tryz.f69, Option.getD, fstC, sndC, bodyC, thnC, elsC]
  cases b1 <;> cases b2 <;> first | exact absurd rfl hb |
  simp (maxSteps := 1000000) (disch := omega) [cellsAt, getCells, takeN, dropN, fieldAddrA, allOne, AV.one, n_push, storeCellsA, putN, overN, St.push, St.get, St.set, hget, hset, blt_dec, buildA, sizesOf, fillA, putCells, List.take_succ_cons, List.take_zero, List.drop_succ_cons, List.drop_zero, List.nil_append, List.cons_append, List.length_cons, List.length_nil, eqvs_dgs, hs1, hs2, hw1, hw2, c0, c1, c2, q1, q2, c3, c4, hd0, c5, c6]
set_option maxHeartbeats 8000000 in
theorem k69n (n1 n2 : Int) (d1 d2 d e1 f2 bo rs : Nat) (z2 : Int) (xh xl yh yl th tl ah al qh ql mh ml rr z1 : Int) (mi o1 o2 : Bool) (c1 : ∀ σ, callI TT 90 [.agg [.int .u64 th, .int .u64 tl], .int .i64 d] σ = some (.tup [.agg [.int .u64 ah, .int .u64 al], .int .i64 rs], σ)) (c2 : ∀ σ, callI TT 74 [.int .i64 d, .int .i64 rs] σ = some (.int .i64 bo, σ)) (c3 : ∀ σ, callI TT 90 [.agg [.int .u64 th, .int .u64 tl], .int .i64 bo] σ = some (.tup [.agg [.int .u64 qh, .int .u64 ql], .int .i64 rr], σ))
    (c4 : ∀ σ, callI TT 91 [.agg [.int .u64 qh, .int .u64 ql]] σ = some (.tup [.int .i64 z1, .bool o1], σ)) (hd : 0 < d) (hbo : 0 < bo) (q1 : wrapA .i64 ((d1 : Int) / (d : Int)) = e1) (q2 : wrapA .i64 ((d2 : Int) / (bo : Int)) = f2) (c5 : ∀ σ, callI TT 86 [.int .i64 e1, .int .i64 f2] σ = some (.agg [.int .u64 mh, .int .u64 ml], σ)) (c6 : ∀ σ, callI TT 91 [.agg [.int .u64 mh, .int .u64 ml]] σ = some (.tup [.int .i64 z2, .bool o2], σ)) (ho : (o1 && o2) = false) :
    ∃ σ1, exI TT (FI.of Tryz.f69 (TT.an 69)) [.code R69_7] [(2, .ptr 0 0), (3, .ptr 1 0), (4, .ptr 2 0), (6, .int .i64 d), (9, .bool mi), (10, .ptr 5 0)] ⟨[(5, ⟨[.int .u64 th, .int .u64 tl], 2, false⟩), (4, ⟨[.int .u64 yh, .int .u64 yl], 2, false⟩), (3, ⟨[.int .u64 xh, .int .u64 xl], 2, false⟩), (2, ⟨[.int .i64 0, .int .i64 0], 2, false⟩), (1, ⟨[.int .i64 n2, .int .i64 (d2 : Nat)], 2, false⟩), (0, ⟨[.int .i64 n1, .int .i64 (d1 : Nat)], 2, false⟩)], 6⟩ = some (.tup [.agg [.int .i64 0, .int .i64 0], .bool false], σ1) := by
  have hd0 : ¬ (d : Int) = 0 := by omega
  have hb0 : ¬ (bo : Int) = 0 := by omega
  refine ex1 ?_
  rw [fi69]
  simp only [R69_7, b69, Tryz.f69, Option.getD, fstC, sndC, bodyC, thnC, elsC]
  cases o1 with
  | false =>
    simp (maxSteps := 1000000) (disch := omega) [cellsAt, getCells, takeN, dropN, fieldAddrA, allOne, AV.one, n_push, storeCellsA, putN, overN, St.push, St.get, St.set, hget, hset, blt_dec, buildA, sizesOf, fillA, putCells, List.take_succ_cons, List.take_zero, List.drop_succ_cons, List.drop_zero, List.nil_append, List.cons_append, List.length_cons, List.length_nil, eqvs_dgs, c1, c2, c3, c4, c5, c6, q1, q2, hd0, hb0]
  | true =>
    cases o2 with
    | true => exact absurd ho (by decide)
    | false =>
      simp (maxSteps := 1000000) (disch := omega) [cellsAt, getCells, takeN, dropN, fieldAddrA, allOne, AV.one, n_push, storeCellsA, putN, overN, St.push, St.get, St.set, hget, hset, blt_dec, buildA, sizesOf, fillA, putCells, List.take_succ_cons, List.take_zero, List.drop_succ_cons, List.drop_zero, List.nil_append, List.cons_append, List.length_cons, List.length_nil, eqvs_dgs, c1, c2, c3, c4, c5, c6, q1, q2, hd0, hb0]
set_option maxHeartbeats 8000000 in
theorem k69e (n1 n2 : Int) (d1 d2 d e1 f2 bo rs z1 z2 : Nat) (xh xl yh yl th tl ah al qh ql mh ml rr : Int) (mi o1 o2 : Bool) (c1 : ∀ σ, callI TT 90 [.agg [.int .u64 th, .int .u64 tl], .int .i64 d] σ = some (.tup [.agg [.int .u64 ah, .int .u64 al], .int .i64 rs], σ)) (c2 : ∀ σ, callI TT 74 [.int .i64 d, .int .i64 rs] σ = some (.int .i64 bo, σ)) (c3 : ∀ σ, callI TT 90 [.agg [.int .u64 th, .int .u64 tl], .int .i64 bo] σ = some (.tup [.agg [.int .u64 qh, .int .u64 ql], .int .i64 rr], σ))
    (c4 : ∀ σ, callI TT 91 [.agg [.int .u64 qh, .int .u64 ql]] σ = some (.tup [.int .i64 z1, .bool o1], σ)) (hd : 0 < d) (hbo : 0 < bo) (q1 : wrapA .i64 ((d1 : Int) / (d : Int)) = e1) (q2 : wrapA .i64 ((d2 : Int) / (bo : Int)) = f2) (c5 : ∀ σ, callI TT 86 [.int .i64 e1, .int .i64 f2] σ = some (.agg [.int .u64 mh, .int .u64 ml], σ)) (c6 : ∀ σ, callI TT 91 [.agg [.int .u64 mh, .int .u64 ml]] σ = some (.tup [.int .i64 z2, .bool o2], σ)) (hz : z1 ≤ 1000000000000000000) :
    (exI TT (FI.of Tryz.f69 (TT.an 69)) [.code R69_7] [(2, .ptr 0 0), (3, .ptr 1 0), (4, .ptr 2 0), (6, .int .i64 d), (9, .bool mi), (10, .ptr 5 0)] ⟨[(5, ⟨[.int .u64 th, .int .u64 tl], 2, false⟩), (4, ⟨[.int .u64 yh, .int .u64 yl], 2, false⟩), (3, ⟨[.int .u64 xh, .int .u64 xl], 2, false⟩), (2, ⟨[.int .i64 0, .int .i64 0], 2, false⟩), (1, ⟨[.int .i64 n2, .int .i64 (d2 : Nat)], 2, false⟩), (0, ⟨[.int .i64 n1, .int .i64 (d1 : Nat)], 2, false⟩)], 6⟩).map Prod.fst = some (if (o1 && o2) = true then .tup [.agg [.int .i64 (if mi = true then -(z1 : Int) else z1), .int .i64 (if z1 = 0 then 1 else (z2 : Int))], .bool true] else .tup [.agg [.int .i64 0, .int .i64 0], .bool false]) := by
  have hd0 : ¬ (d : Int) = 0 := by omega
  have hb0 : ¬ (bo : Int) = 0 := by omega
  have hw : wrapA .i64 (-(z1 : Int)) = -(z1 : Int) := wrapA_id (by omega) (by omega)
  rw [fi69]
  simp only [R69_7, b69, Tryz.f69, Option.getD, fstC, sndC, bodyC, thnC, elsC]
  cases o1 with
  | false =>
    simp (maxSteps := 1000000) (disch := omega) [cellsAt, getCells, takeN, dropN, fieldAddrA, allOne, AV.one, n_push, storeCellsA, putN, overN, St.push, St.get, St.set, hget, hset, blt_dec, buildA, sizesOf, fillA, putCells, List.take_succ_cons, List.take_zero, List.drop_succ_cons, List.drop_zero, List.nil_append, List.cons_append, List.length_cons, List.length_nil, eqvs_dgs, c1, c2, c3, c4, c5, c6, q1, q2, hd0, hb0]
  | true =>
    cases o2 with
    | false =>
      simp (maxSteps := 1000000) (disch := omega) [cellsAt, getCells, takeN, dropN, fieldAddrA, allOne, AV.one, n_push, storeCellsA, putN, overN, St.push, St.get, St.set, hget, hset, blt_dec, buildA, sizesOf, fillA, putCells, List.take_succ_cons, List.take_zero, List.drop_succ_cons, List.drop_zero, List.nil_append, List.cons_append, List.length_cons, List.length_nil, eqvs_dgs, c1, c2, c3, c4, c5, c6, q1, q2, hd0, hb0]
    | true =>
      by_cases h0 : z1 = 0
      · subst h0
        have hw0 : wrapA .i64 0 = 0 := by decide
        cases mi <;>
          simp (maxSteps := 1000000) (disch := omega) [cellsAt, getCells, takeN, dropN, fieldAddrA, allOne, AV.one, n_push, storeCellsA, putN, overN, St.push, St.get, St.set, hget, hset, blt_dec, buildA, sizesOf, fillA, putCells, List.take_succ_cons, List.take_zero, List.drop_succ_cons, List.drop_zero, List.nil_append, List.cons_append, List.length_cons, List.length_nil, eqvs_dgs, c1, c2, c3, c4, c5, c6, q1, q2, hd0, hb0, hw0]
      · have h1 : ¬ (z1 : Int) = 0 := by omega
        have h2 : ¬ -(z1 : Int) = 0 := by omega
        cases mi <;>
          simp (maxSteps := 1000000) (disch := omega) [cellsAt, getCells, takeN, dropN, fieldAddrA, allOne, AV.one, n_push, storeCellsA, putN, overN, St.push, St.get, St.set, hget, hset, blt_dec, buildA, sizesOf, fillA, putCells, List.take_succ_cons, List.take_zero, List.drop_succ_cons, List.drop_zero, List.nil_append, List.cons_append, List.length_cons, List.length_nil, eqvs_dgs, c1, c2, c3, c4, c5, c6, q1, q2, hd0, hb0, hw, h0, h1, h2]

theorem add_parts (p q : Rat) : ∀ g num, Nat.gcd p.den q.den = g → p.num * ((q.den / g : Nat) : Int) + q.num * ((p.den / g : Nat) : Int) = num → (p + q).num.natAbs = num.natAbs / Nat.gcd num.natAbs g ∧ (p + q).den = p.den / g * (q.den / Nat.gcd num.natAbs g) ∧ (ng (p + q) = true ↔ num < 0) ∧ (nm (p + q) = 0 ↔ num = 0) := by
  intro g num hg hnum
  have hg0 : 0 < g := by rw [← hg]; exact Nat.gcd_pos_of_pos_left _ p.den_pos
  have hd1 : p.den / g * g = p.den := Nat.div_mul_cancel (by rw [← hg]; exact Nat.gcd_dvd_left _ _)
  have hd2 : q.den / g * g = q.den := Nat.div_mul_cancel (by rw [← hg]; exact Nat.gcd_dvd_right _ _)
  have hp1 : 0 < p.den / g := Nat.pos_of_ne_zero fun h => by rw [h, Nat.zero_mul] at hd1; have := p.den_pos; omega
  have haux := Rat.add.aux p q (g := g) (ad := p.den / g) (bd := q.den / g) hg.symm rfl rfl
  simp only [hnum] at haux
  have hden : p.den / g * q.den ≠ 0 := Nat.pos_iff_ne_zero.1 (Nat.mul_pos hp1 q.den_pos)
  have e : p + q = mkRat num (p.den / g * q.den) := by
    rw [Rat.add_def', ← Rat.mkRat_mul_right (n := num) (a := g) (by omega)]
    congr 1
    · rw [← hnum, Int.add_mul, Int.mul_assoc, Int.mul_assoc, ← Int.natCast_mul, ← Int.natCast_mul, hd1, hd2]
    · rw [Nat.mul_right_comm, hd1]
  have hgg : Nat.gcd num.natAbs g ∣ q.den := Nat.dvd_trans (Nat.gcd_dvd_right _ _) (by rw [← hg]; exact Nat.gcd_dvd_right _ _)
  have hd : (p.den / g * q.den).gcd num.natAbs = Nat.gcd num.natAbs g := by rw [Nat.gcd_comm, ← haux]
  have hdv : ((Nat.gcd num.natAbs g : Nat) : Int) ∣ num := Int.dvd_natAbs.1 (Int.natCast_dvd_natCast.2 (Nat.gcd_dvd_left _ _))
  have hn : (p + q).num = num / ((Nat.gcd num.natAbs g : Nat) : Int) := by rw [e, Rat.num_mkRat, if_neg hden, hd]
  have hG : 0 < Nat.gcd num.natAbs g := Nat.gcd_pos_of_pos_right _ hg0
  have hnn : num = (p + q).num * ((Nat.gcd num.natAbs g : Nat) : Int) := by rw [hn, Int.ediv_mul_cancel hdv]
  refine ⟨?_, ?_, ?_, ?_⟩
  · rw [hn, ← Int.tdiv_eq_ediv_of_dvd hdv, Int.natAbs_tdiv]; rfl
  · rw [e, Rat.den_mkRat, if_neg hden, hd, Nat.mul_div_assoc _ hgg]
  · rw [ng, decide_eq_true_eq]
    constructor
    · intro h; rw [hnn]; exact Int.mul_neg_of_neg_of_pos h (by omega)
    · intro h
      refine Int.not_le.1 fun hh => ?_
      have := Int.mul_nonneg hh (show (0 : Int) ≤ ((Nat.gcd num.natAbs g : Nat) : Int) by omega)
      rw [← hnn] at this; omega
  · rw [nm, Int.natAbs_eq_zero]
    constructor
    · intro h; rw [hnn, h, Int.zero_mul]
    · intro h; rw [hn, h]; simp
theorem mul_parts (p q : Rat) : (p * q).num = p.num.tdiv ((Nat.gcd p.num.natAbs q.den : Nat) : Int) * q.num.tdiv ((Nat.gcd q.num.natAbs p.den : Nat) : Int) ∧ (p * q).den = p.den / Nat.gcd q.num.natAbs p.den * (q.den / Nat.gcd p.num.natAbs q.den) := by
  constructor
  · show (Rat.mul p q).num = _
    delta Rat.mul; dsimp only
    simp only [Int.divExact_eq_tdiv]
  · show (Rat.mul p q).den = _
    delta Rat.mul; dsimp only
    simp only [Nat.divExact_eq_div]
theorem mul_lt64 {a b : Nat} (ha : a ≤ 1000000000000000000) (hb : b ≤ 1000000000000000000) : 2 * (a * b) < 18446744073709551616 * 18446744073709551616 := by
  have := Nat.mul_le_mul ha hb
  exact Nat.lt_of_le_of_lt (Nat.mul_le_mul_left 2 this) (by decide)
theorem sg_t (n : Int) (k : Nat) : n * (k : Int) = sg (decide (n < 0)) (n.natAbs * k) := by
  have h1 := sg_mul (decide (n < 0)) false n.natAbs k
  rw [sg_of, show sg false k = (k : Int) from rfl] at h1
  rw [h1]; cases decide (n < 0) <;> rfl
theorem abs_sg (b : Bool) (n : Nat) : (sg b n).natAbs = n := sg_abs b n
set_option maxHeartbeats 4000000 in
theorem v69 {n1 d1 n2 d2 : Int} (h1 : vfr n1 d1 = true) (h2 : vfr n2 d2 = true) : FnV TT 69 [.agg [.int .i64 n1, .int .i64 d1], .agg [.int .i64 n2, .int .i64 d2]] (frA (mkRat n1 d1.toNat + mkRat n2 d2.toNat)) := by
  obtain ⟨a1, a2, a3, a4⟩ := vfr_b h1
  obtain ⟨b1, b2, b3, b4⟩ := vfr_b h2
  obtain ⟨p1, p2, _⟩ := vfr_rat h1
  obtain ⟨q1, q2, _⟩ := vfr_rat h2
  obtain ⟨D1, rfl⟩ : ∃ D1 : Nat, d1 = D1 := ⟨d1.toNat, by omega⟩
  obtain ⟨D2, rfl⟩ : ∃ D2 : Nat, d2 = D2 := ⟨d2.toNat, by omega⟩
  rw [Int.toNat_natCast] at p1 p2 q1 q2
  rw [Int.toNat_natCast, Int.toNat_natCast]
  obtain ⟨P, hP⟩ : ∃ P, mkRat n1 D1 = P := ⟨_, rfl⟩
  obtain ⟨Q, hQ⟩ : ∃ Q, mkRat n2 D2 = Q := ⟨_, rfl⟩
  rw [hP] at p1 p2 ⊢
  rw [hQ] at q1 q2 ⊢
  have hpd : P.den = D1 := by omega
  have hqd : Q.den = D2 := by omega
  obtain ⟨d, hd⟩ : ∃ d, Nat.gcd D1 D2 = d := ⟨_, rfl⟩
  have hd0 : 0 < d := by rw [← hd]; exact Nat.gcd_pos_of_pos_left _ (by omega)
  obtain ⟨num, hnum⟩ : ∃ num, n1 * ((D2 / d : Nat) : Int) + n2 * ((D1 / d : Nat) : Int) = num := ⟨_, rfl⟩
  obtain ⟨r1, r2, r3, r4⟩ := add_parts P Q d num (by rw [hpd, hqd, hd]) (by rw [p1, q1, hpd, hqd]; exact hnum)
  rw [hpd, hqd] at r2
  have l1 : D2 / d ≤ D2 := Nat.div_le_self _ _
  have l2 : D1 / d ≤ D1 := Nat.div_le_self _ _
  have x1 := mul_lt64 (show n1.natAbs ≤ 1000000000000000000 by omega) (show D2 / d ≤ 1000000000000000000 by omega)
  have x2 := mul_lt64 (show n2.natAbs ≤ 1000000000000000000 by omega) (show D1 / d ≤ 1000000000000000000 by omega)
  have c0 := fun σ : St => v74 D1 D2 σ [.int .i64 D1, .int .i64 D2] rfl
  rw [hd] at c0
  have c1 := fun σ : St => v75a n1 σ [.int .i64 n1, .int .i64 (-n1)] rfl
  have c2 := fun σ : St => v75a n2 σ [.int .i64 n2, .int .i64 (-n2)] rfl
  have w1 : wrapA .i64 ((D1 : Int) / (d : Int)) = ((D1 / d : Nat) : Int) := by rw [← Int.natCast_ediv]; exact wi64 (by omega)
  have w2 : wrapA .i64 ((D2 : Int) / (d : Int)) = ((D2 / d : Nat) : Int) := by rw [← Int.natCast_ediv]; exact wi64 (by omega)
  have c3 := fun σ : St => (v86 n1.natAbs (D2 / d) (by omega) (by omega)).pure σ rfl rfl
  have c4 := fun σ : St => (v86 n2.natAbs (D1 / d) (by omega) (by omega)).pure σ rfl rfl
  have hw1 : wrapA .i64 (-n1) = -n1 := wrapA_id (by omega) (by omega)
  have hw2 : wrapA .i64 (-n2) = -n2 := wrapA_id (by omega) (by omega)
  rw [sg_t, sg_t] at hnum
  obtain ⟨x, hx⟩ : ∃ x, n1.natAbs * (D2 / d) = x := ⟨_, rfl⟩
  obtain ⟨y, hy⟩ : ∃ y, n2.natAbs * (D1 / d) = y := ⟨_, rfl⟩
  rw [hx] at x1 c3 hnum
  rw [hy] at x2 c4 hnum
  -- the end
  have fin : ∀ (t : Nat) (mi : Bool) (xh xl yh yl : Int), num.natAbs = t → t < 18446744073709551616 * 18446744073709551616 → (num ≠ 0 → mi = decide (num < 0)) → (exI TT (FI.of Tryz.f69 (TT.an 69)) [.code R69_7] [(2, .ptr 0 0), (3, .ptr 1 0), (4, .ptr 2 0), (6, .int .i64 d), (9, .bool mi), (10, .ptr 5 0)] ⟨[(5, ⟨[.int .u64 ((t / 18446744073709551616 : Nat) : Int), .int .u64 ((t % 18446744073709551616 : Nat) : Int)], 2, false⟩), (4, ⟨[.int .u64 yh, .int .u64 yl], 2, false⟩), (3, ⟨[.int .u64 xh, .int .u64 xl], 2, false⟩), (2, ⟨[.int .i64 0, .int .i64 0], 2, false⟩), (1, ⟨[.int .i64 n2, .int .i64 (D2 : Nat)], 2, false⟩), (0, ⟨[.int .i64 n1, .int .i64 (D1 : Nat)], 2, false⟩)], 6⟩).map Prod.fst = some (frA (P + Q)) := by
    intro t mi xh xl yh yl ht htb hmi
    rw [ht] at r1 r2
    obtain ⟨bo, hbo⟩ : ∃ bo, Nat.gcd t d = bo := ⟨_, rfl⟩
    rw [hbo] at r1 r2
    have hbo0 : 0 < bo := by rw [← hbo]; exact Nat.gcd_pos_of_pos_right _ hd0
    have hbd : bo ≤ d := by rw [← hbo]; exact Nat.le_of_dvd hd0 (Nat.gcd_dvd_right _ _)
    have hdD : d ≤ D1 := by rw [← hd]; exact Nat.le_of_dvd (by omega) (Nat.gcd_dvd_left _ _)
    have g1 := fun σ : St => (v90 t d hd0 (by omega) htb).pure σ rfl rfl
    have g2 := fun σ : St => v74 d (t % d) σ [.int .i64 d, .int .i64 (t % d : Nat)] rfl
    rw [← gcd_step t d hd0, hbo] at g2
    have g3 := fun σ : St => (v90 t bo hbo0 (by omega) htb).pure σ rfl rfl
    obtain ⟨z1, v1, u1⟩ := v91 (t / bo)
    have g4 := fun σ : St => v1 σ [W2 (t / bo)] rfl
    have l3 : D2 / bo ≤ D2 := Nat.div_le_self _ _
    have w3 : wrapA .i64 ((D2 : Int) / (bo : Int)) = ((D2 / bo : Nat) : Int) := by rw [← Int.natCast_ediv]; exact wi64 (by omega)
    have g5 := fun σ : St => (v86 (D1 / d) (D2 / bo) (by omega) (by omega)).pure σ rfl rfl
    obtain ⟨z2, v2, u2⟩ := v91 (D1 / d * (D2 / bo))
    have g6 := fun σ : St => v2 σ [W2 (D1 / d * (D2 / bo))] rfl
    rw [← r1] at g3 g4 u1
    rw [← r2] at g5 g6 u2
    have hnm : (P + Q).num.natAbs = nm (P + Q) := rfl
    rw [hnm] at g3 g4 u1
    by_cases hf : fits (P + Q) = true
    · obtain ⟨f1, f2⟩ := fits_iff.1 hf
      rw [u1 f1] at g4
      rw [u2 f2] at g6
      have hk := k69e n1 n2 D1 D2 d (D1 / d) (D2 / bo) bo (t % d) (nm (P + Q)) (P + Q).den xh xl yh yl _ _ _ _ _ _ _ _ _ mi _ _ g1 g2 g3 g4 hd0 hbo0 w1 w3 g5 g6 f1
      rw [hk, frA, if_pos hf, if_pos (by rw [decide_eq_true f1, decide_eq_true f2]; rfl)]
      have hnum2 : (if mi = true then -((nm (P + Q) : Nat) : Int) else (nm (P + Q) : Nat)) = (P + Q).num := by
        by_cases h0 : num = 0
        · have := r4.2 h0
          have h00 : (P + Q).num = 0 := by rw [nm, Int.natAbs_eq_zero] at this; exact this
          rw [this, h00]; cases mi <;> rfl
        · rw [hmi h0]
          have := sg_num (P + Q)
          have hng : ng (P + Q) = decide (num < 0) := by
            rw [Bool.eq_iff_iff, r3, decide_eq_true_eq]
          rw [hng] at this
          exact this
      have hden2 : (if nm (P + Q) = 0 then (1 : Int) else ((P + Q).den : Nat)) = ((P + Q).den : Nat) := by
        split
        · rename_i h0
          have := nm_zero.1 h0
          rw [this]; rfl
        · rfl
      rw [hnum2, hden2]
    · have hnf : (decide (nm (P + Q) ≤ 1000000000000000000) && decide ((P + Q).den ≤ 1000000000000000000)) = false := by
        cases hh : (decide (nm (P + Q) ≤ 1000000000000000000) && decide ((P + Q).den ≤ 1000000000000000000)) with
        | false => rfl
        | true =>
          simp only [Bool.and_eq_true, decide_eq_true_eq] at hh
          exact absurd (fits_iff.2 hh) hf
      rw [frA, if_neg hf]
      by_cases f1 : nm (P + Q) ≤ 1000000000000000000
      · rw [u1 f1] at g4
        have f2 : ¬ (P + Q).den ≤ 1000000000000000000 := fun h => by rw [decide_eq_true f1, decide_eq_true h] at hnf; cases hnf
        rw [decide_eq_false f2] at g6
        obtain ⟨σ1, hk⟩ := k69n n1 n2 D1 D2 d (D1 / d) (D2 / bo) bo (t % d) z2 xh xl yh yl _ _ _ _ _ _ _ _ _ _ mi _ _ g1 g2 g3 g4 hd0 hbo0 w1 w3 g5 g6 (by simp)
        rw [hk]; rfl
      · rw [decide_eq_false f1] at g4
        obtain ⟨σ1, hk⟩ := k69n n1 n2 D1 D2 d (D1 / d) (D2 / bo) bo (t % d) z2 xh xl yh yl _ _ _ _ _ _ _ _ _ _ mi _ _ g1 g2 g3 g4 hd0 hbo0 w1 w3 g5 g6 (by simp)
        rw [hk]; rfl
  refine FnV.mk (c := R69_0) fn69 rfl md69 (ex1 ?_) (fun σ => by unfold frA; split <;> rfl) (by unfold frA; split <;> rfl)
  by_cases hs : decide (n1 < 0) = decide (n2 < 0)
  · rw [hs, sg_add_same] at hnum
    have c5 := fun σ : St => (v87 x y (by omega)).pure σ rfl rfl
    rw [k69s n1 n2 D1 D2 n1.natAbs n2.natAbs d (D1 / d) (D2 / d) _ _ _ _ _ _ _ _ (ileb_neg n1) (ileb_neg n2) hw1 hw2 c1 c2 c0 hd0 w1 w2 c3 c4 hs c5]
    refine fin (x + y) _ _ _ _ _ (by rw [← hnum, abs_sg]) (by omega) (fun h0 => ?_)
    rw [hs, ← hnum]
    have : x + y ≠ 0 := fun h => h0 (by rw [← hnum, h, sg_zero])
    cases decide (n2 < 0) <;> simp [sg] <;> omega
  · by_cases hl : x < y
    · rw [sg_add_lt hs hl] at hnum
      have c6 := fun σ : St => v88 x y σ [W2 x, W2 y] rfl
      rw [decide_eq_true hl] at c6
      have c5 := fun σ : St => (v89 y x (by omega) (by omega)).pure σ rfl rfl
      rw [k69l n1 n2 D1 D2 n1.natAbs n2.natAbs d (D1 / d) (D2 / d) _ _ _ _ _ _ _ _ (ileb_neg n1) (ileb_neg n2) hw1 hw2 c1 c2 c0 hd0 w1 w2 c3 c4 hs c6 c5]
      refine fin (y - x) _ _ _ _ _ (by rw [← hnum, abs_sg]) (by omega) (fun h0 => ?_)
      rw [← hnum]
      cases decide (n2 < 0) <;> simp [sg] <;> omega
    · rw [sg_add_ge hs (by omega)] at hnum
      have c6 := fun σ : St => v88 x y σ [W2 x, W2 y] rfl
      rw [decide_eq_false hl] at c6
      have c5 := fun σ : St => (v89 x y (by omega) (by omega)).pure σ rfl rfl
      rw [k69g n1 n2 D1 D2 n1.natAbs n2.natAbs d (D1 / d) (D2 / d) _ _ _ _ _ _ _ _ (ileb_neg n1) (ileb_neg n2) hw1 hw2 c1 c2 c0 hd0 w1 w2 c3 c4 hs c6 c5]
      refine fin (x - y) _ _ _ _ _ (by rw [← hnum, abs_sg]) (by omega) (fun h0 => ?_)
      rw [← hnum]
      have : x - y ≠ 0 := fun h => h0 (by rw [← hnum, h, sg_zero])
      cases decide (n1 < 0) <;> simp [sg] <;> omega

set_option maxHeartbeats 8000000 in
theorem k73 (n1 n2 d1 d2 an ad bn bd : Int) (m1 m2 : Nat) (xh xl yh yl z1 z2 : Int) (o1 o2 sa sb : Bool) (c1 : ∀ σ, callI TT 48 [.int .i64 n1, .int .i64 d2] σ = some (.agg [.int .i64 an, .int .i64 ad], σ)) (c2 : ∀ σ, callI TT 48 [.int .i64 n2, .int .i64 d1] σ = some (.agg [.int .i64 bn, .int .i64 bd], σ)) (hsa : (!ileb 0 an) = sa) (hsb : (!ileb 0 bn) = sb) (hw1 : wrapA .i64 (-an) = -an) (hw2 : wrapA .i64 (-bn) = -bn)
    (c3 : ∀ σ, callI TT 75 [.int .i64 an, .int .i64 (-an)] σ = some (.int .i64 m1, σ)) (c4 : ∀ σ, callI TT 75 [.int .i64 bn, .int .i64 (-bn)] σ = some (.int .i64 m2, σ)) (c5 : ∀ σ, callI TT 86 [.int .i64 m1, .int .i64 m2] σ = some (.agg [.int .u64 xh, .int .u64 xl], σ)) (c6 : ∀ σ, callI TT 91 [.agg [.int .u64 xh, .int .u64 xl]] σ = some (.tup [.int .i64 z1, .bool o1], σ)) (c7 : ∀ σ, callI TT 86 [.int .i64 ad, .int .i64 bd] σ = some (.agg [.int .u64 yh, .int .u64 yl], σ)) (c8 : ∀ σ, callI TT 91 [.agg [.int .u64 yh, .int .u64 yl]] σ = some (.tup [.int .i64 z2, .bool o2], σ)) (hw : o1 = true → wrapA .i64 (-z1) = -z1) :
    ∃ σ1, exI TT (FI.of Tryz.f73 (TT.an 73)) [.code (Tryz.f73.body.getD .skip)] (paramsE 0 [.agg [.int .i64 n1, .int .i64 d1], .agg [.int .i64 n2, .int .i64 d2]]) ⟨[], 0⟩ = some (if (o1 && o2) = true then .tup [.agg [.int .i64 (if (sa != sb) = true then -z1 else z1), .int .i64 z2], .bool true] else .tup [.agg [.int .i64 0, .int .i64 0], .bool false], σ1) := by
  refine ex1 ?_
  rw [fi73]
  simp only [Tryz.f73, Option.getD]
  cases o1 with
  | false =>
    simp (maxSteps := 1000000) (disch := omega) [cellsAt, getCells, takeN, dropN, fieldAddrA, allOne, AV.one, n_push, storeCellsA, putN, overN, St.push, St.get, St.set, hget, hset, blt_dec, buildA, sizesOf, fillA, putCells, List.take_succ_cons, List.take_zero, List.drop_succ_cons, List.drop_zero, List.nil_append, List.cons_append, List.length_cons, List.length_nil, eqvs_dgs, c1, c2, c3, c4, c5, c6, c7, c8, hw1, hw2]
  | true =>
    have hw := hw rfl
    cases o2 with
    | false =>
      simp (maxSteps := 1000000) (disch := omega) [cellsAt, getCells, takeN, dropN, fieldAddrA, allOne, AV.one, n_push, storeCellsA, putN, overN, St.push, St.get, St.set, hget, hset, blt_dec, buildA, sizesOf, fillA, putCells, List.take_succ_cons, List.take_zero, List.drop_succ_cons, List.drop_zero, List.nil_append, List.cons_append, List.length_cons, List.length_nil, eqvs_dgs, c1, c2, c3, c4, c5, c6, c7, c8, hw1, hw2]
    | true =>
      cases sa <;> cases sb <;>
        simp (maxSteps := 1000000) (disch := omega) [cellsAt, getCells, takeN, dropN, fieldAddrA, allOne, AV.one, n_push, storeCellsA, putN, overN, St.push, St.get, St.set, hget, hset, blt_dec, buildA, sizesOf, fillA, putCells, List.take_succ_cons, List.take_zero, List.drop_succ_cons, List.drop_zero, List.nil_append, List.cons_append, List.length_cons, List.length_nil, eqvs_dgs, c1, c2, c3, c4, c5, c6, c7, c8, hw1, hw2, hsa, hsb, hw]
set_option maxHeartbeats 4000000 in
theorem v73 {n1 d1 n2 d2 : Int} (h1 : vfr n1 d1 = true) (h2 : vfr n2 d2 = true) : FnV TT 73 [.agg [.int .i64 n1, .int .i64 d1], .agg [.int .i64 n2, .int .i64 d2]] (frA (mkRat n1 d1.toNat * mkRat n2 d2.toNat)) := by
  obtain ⟨a1, a2, a3, a4⟩ := vfr_b h1
  obtain ⟨b1, b2, b3, b4⟩ := vfr_b h2
  obtain ⟨p1, p2, _⟩ := vfr_rat h1
  obtain ⟨q1, q2, _⟩ := vfr_rat h2
  obtain ⟨D1, rfl⟩ : ∃ D1 : Nat, d1 = D1 := ⟨d1.toNat, by omega⟩
  obtain ⟨D2, rfl⟩ : ∃ D2 : Nat, d2 = D2 := ⟨d2.toNat, by omega⟩
  rw [Int.toNat_natCast] at p1 p2 q1 q2
  rw [Int.toNat_natCast, Int.toNat_natCast]
  obtain ⟨P, hP⟩ : ∃ P, mkRat n1 D1 = P := ⟨_, rfl⟩
  obtain ⟨Q, hQ⟩ : ∃ Q, mkRat n2 D2 = Q := ⟨_, rfl⟩
  rw [hP] at p1 p2 ⊢
  rw [hQ] at q1 q2 ⊢
  have hpd : P.den = D1 := by omega
  have hqd : Q.den = D2 := by omega
  obtain ⟨r1, r2⟩ := mul_parts P Q
  obtain ⟨s1, s2⟩ := mk_parts n1 (d := D2) (by omega)
  obtain ⟨t1, t2⟩ := mk_parts n2 (d := D1) (by omega)
  rw [p1, q1, hpd, hqd, ← s1, ← t1] at r1
  rw [p1, q1, hpd, hqd, ← s2, ← t2, Nat.mul_comm] at r2
  have c1 := fun σ : St => v48 n1 D2 (by omega) (by omega) (by omega) (by omega) σ [.int .i64 n1, .int .i64 D2] rfl
  have c2 := fun σ : St => v48 n2 D1 (by omega) (by omega) (by omega) (by omega) σ [.int .i64 n2, .int .i64 D1] rfl
  have u1 : (mkRat n1 D2).num.natAbs ≤ n1.natAbs := by rw [s1, Int.natAbs_tdiv]; exact Nat.div_le_self _ _
  have u2 : (mkRat n2 D1).num.natAbs ≤ n2.natAbs := by rw [t1, Int.natAbs_tdiv]; exact Nat.div_le_self _ _
  have u3 : (mkRat n1 D2).den ≤ D2 := by rw [s2]; exact Nat.div_le_self _ _
  have u4 : (mkRat n2 D1).den ≤ D1 := by rw [t2]; exact Nat.div_le_self _ _
  obtain ⟨A, hA⟩ : ∃ A, mkRat n1 D2 = A := ⟨_, rfl⟩
  obtain ⟨C, hC⟩ : ∃ C, mkRat n2 D1 = C := ⟨_, rfl⟩
  rw [hA] at c1 u1 u3 r1 r2
  rw [hC] at c2 u2 u4 r1 r2
  have c5 := fun σ : St => (v86 A.num.natAbs C.num.natAbs (by omega) (by omega)).pure σ rfl rfl
  have c7 := fun σ : St => (v86 A.den C.den (by omega) (by omega)).pure σ rfl rfl
  obtain ⟨z1, v1, w1⟩ := v91 (A.num.natAbs * C.num.natAbs)
  have c6 := fun σ : St => v1 σ [W2 (A.num.natAbs * C.num.natAbs)] rfl
  obtain ⟨z2, v2, w2⟩ := v91 (A.den * C.den)
  have c8 := fun σ : St => v2 σ [W2 (A.den * C.den)] rfl
  have hnm : A.num.natAbs * C.num.natAbs = nm (P * Q) := by rw [nm, r1, Int.natAbs_mul]
  rw [hnm] at c5 c6 w1
  rw [← r2] at c7 c8 w2
  have hk := k73 n1 n2 D1 D2 A.num A.den C.num C.den A.num.natAbs C.num.natAbs _ _ _ _ z1 z2 _ _ _ _ c1 c2 (ileb_neg _) (ileb_neg _) (wrapA_id (by omega) (by omega)) (wrapA_id (by omega) (by omega)) (fun σ => v75a A.num σ _ rfl) (fun σ => v75a C.num σ _ rfl) c5 c6 c7 c8 (fun h => by
    have := w1 (of_decide_eq_true h)
    have := of_decide_eq_true h
    exact wrapA_id (by omega) (by omega))
  have e : (if (decide (nm (P * Q) ≤ 1000000000000000000) && decide ((P * Q).den ≤ 1000000000000000000)) = true then AV.tup [.agg [.int .i64 (if (decide (A.num < 0) != decide (C.num < 0)) = true then -z1 else z1), .int .i64 z2], .bool true] else .tup [.agg [.int .i64 0, .int .i64 0], .bool false]) = frA (P * Q) := by
    unfold frA
    by_cases hf : fits (P * Q) = true
    · obtain ⟨f1, f2⟩ := fits_iff.1 hf
      rw [if_pos (by simp [f1, f2]), if_pos hf, w1 f1, w2 f2]
      have : (if (decide (A.num < 0) != decide (C.num < 0)) = true then -((nm (P * Q) : Nat) : Int) else ((nm (P * Q) : Nat) : Int)) = (P * Q).num := by
        have h3 := sg_mul (decide (A.num < 0)) (decide (C.num < 0)) A.num.natAbs C.num.natAbs
        rw [sg_of, sg_of, ← r1, hnm] at h3
        exact h3.symm
      rw [this]
    · have hn : ¬ (decide (nm (P * Q) ≤ 1000000000000000000) && decide ((P * Q).den ≤ 1000000000000000000)) = true := by
        intro hh
        simp at hh
        exact hf (fits_iff.2 hh)
      rw [if_neg hn, if_neg hf]
  rw [e] at hk
  exact FnV.mk fn73 rfl md73 hk (fun σ => by unfold frA; split <;> rfl) (by unfold frA; split <;> rfl)

end Go.Proofs.YtkglajdhlmmlfaaGreat
