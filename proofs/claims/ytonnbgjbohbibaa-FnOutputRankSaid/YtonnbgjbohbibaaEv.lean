/- Contracts: what is seen, and its equations. Nothing is claimed here; no condition. -/
import Derived.Test.YtonnbgjbohbibaaEu
import Derived.Test.YtonnbgjbohbibaaEg
import Derived.Test.YtonnbgjbohbibaaEi
namespace Go.Proofs.Ytonnbgjbohbibaa
open Go Go.Abs
set_option linter.unusedSimpArgs false
set_option linter.unusedVariables false
open Go.Wd
theorem xor_can (r x y : Nat) : r ^^^ (x ^^^ (r ^^^ y)) = x ^^^ y := by rw [show r ^^^ (x ^^^ (r ^^^ y)) = (r ^^^ r) ^^^ (x ^^^ y) by ac_rfl]; simp
theorem comb_xor : ∀ (R : List Nat) (a b : Nat), comb R (a ^^^ b) = comb R a ^^^ comb R b
  | [], _, _ => by simp [comb]
  | r :: R, a, b => by
    simp only [comb]
    rw [show (a ^^^ b) / 2 = a / 2 ^^^ b / 2 from by have := Nat.xor_div_two_pow (a := a) (b := b) (n := 1); simpa using this, comb_xor R]
    have h2 : (a ^^^ b) % 2 = (a % 2) ^^^ (b % 2) := by have := Nat.xor_mod_two_pow (a := a) (b := b) (n := 1); simpa using this
    have ha : a % 2 = 0 ∨ a % 2 = 1 := by omega
    have hb : b % 2 = 0 ∨ b % 2 = 1 := by omega
    rw [h2]
    rcases ha with ha | ha <;> rcases hb with hb | hb <;> simp [ha, hb]
    · ac_rfl
    · ac_rfl
    · rw [Nat.xor_assoc, xor_can]
theorem comb_z : ∀ (R : List Nat), comb R 0 = 0
  | [] => rfl
  | r :: R => by simp [comb, comb_z R]
theorem comb_times (first : List Nat) : ∀ (t : List Nat) (m : Nat), comb (times first t) m = comb first (comb t m)
  | [], m => by simp [times, comb, comb_z]
  | r :: t, m => by
    have ih := comb_times first t (m / 2)
    simp only [times] at ih
    simp only [times, List.map_cons, comb, ih, comb_xor]
    split <;> simp [comb_z]
/-- Many sums of rows, one after the other. -/
def itr (R : List Nat) : Nat → Nat → Nat
  | 0, m => m
  | n + 1, m => itr R n (comb R m)
theorem itr_add (R : List Nat) : ∀ (a b m : Nat), itr R (a + b) m = itr R b (itr R a m)
  | 0, b, m => by simp [itr]
  | a + 1, b, m => by rw [show a + 1 + b = (a + b) + 1 by omega, itr, itr_add R a b, itr]
theorem itr_sq (R : List Nat) : ∀ (n m : Nat), itr (times R R) n m = itr R (2 * n) m
  | 0, m => rfl
  | n + 1, m => by rw [itr, itr_sq R n, comb_times, show 2 * (n + 1) = (2 * n) + 1 + 1 by omega, itr, itr]
theorem itr_comm (R : List Nat) : ∀ (n m : Nat), itr R n (comb R m) = comb R (itr R n m)
  | 0, _ => rfl
  | n + 1, m => by rw [itr, itr_comm R n (comb R m), itr]
theorem comb_power : ∀ (k : Nat) (R out : List Nat) (n m : Nat), n < 2 ^ k → comb (power k R out n) m = comb out (itr R n m)
  | 0, R, out, n, m, h => by
    have : n = 0 := by simpa using h
    subst this; rfl
  | k + 1, R, out, n, m, h => by
    simp only [power]
    by_cases h0 : n = 0
    · subst h0; rfl
    · rw [if_neg h0, comb_power k _ _ _ _ (by rw [Nat.pow_succ] at h; omega), itr_sq]
      by_cases h1 : n % 2 = 1
      · rw [if_pos h1, comb_times, ← itr_comm, ← itr]; congr 2; omega
      · rw [if_neg h1]; congr 2; omega
theorem mk_itr (A : List Nat) (o : Nat) : ∀ n, mk A o n = itr A n o
  | 0 => rfl
  | n + 1 => by rw [mk, mk_itr A o n, ← itr_comm]; rfl
theorem comb_units : ∀ (k a m : Nat), m < 2 ^ k → comb (units a k) m = m * 2 ^ a
  | 0, a, m, h => by
    have : m = 0 := by simpa using h
    subst this; simp [units, comb]
  | k + 1, a, m, h => by
    rw [units, comb, comb_units k (a + 1) (m / 2) (by rw [Nat.pow_succ] at h; omega)]
    have e : m / 2 * 2 ^ (a + 1) = 2 ^ (a + 1) * (m / 2) := Nat.mul_comm _ _
    by_cases h1 : m % 2 = 1
    · rw [if_pos h1, e]
      have h2 : 2 ^ a < 2 ^ (a + 1) := Nat.pow_lt_pow_right (by decide) (by omega)
      have := Nat.two_pow_add_eq_or_of_lt h2 (m / 2)
      have h3 : 2 ^ a ^^^ 2 ^ (a + 1) * (m / 2) = 2 ^ (a + 1) * (m / 2) + 2 ^ a := by
        rw [this]
        apply Nat.eq_of_testBit_eq
        intro i
        rw [Nat.testBit_xor, Nat.testBit_or, Nat.testBit_two_pow, Nat.mul_comm, Nat.testBit_mul_two_pow]
        by_cases hi : a = i
        · subst hi; simp
        · simp [hi]
      rw [h3, Nat.pow_succ]
      have : m = 2 * (m / 2) + 1 := by omega
      calc 2 ^ a * 2 * (m / 2) + 2 ^ a = 2 ^ a * (2 * (m / 2) + 1) := by rw [Nat.mul_add, Nat.mul_assoc]; omega
        _ = m * 2 ^ a := by rw [← this, Nat.mul_comm]
    · rw [if_neg h1, Nat.zero_xor, Nat.pow_succ]
      have : m = 2 * (m / 2) := by omega
      calc m / 2 * (2 ^ a * 2) = 2 * (m / 2) * 2 ^ a := by rw [Nat.mul_comm (2 ^ a) 2, ← Nat.mul_assoc, Nat.mul_comm (m / 2) 2]
        _ = m * 2 ^ a := by rw [← this]
theorem row_mk {A : List Nat} {o n : Nat} (hA : ∀ r ∈ A, r < 2 ^ A.length) (ho : o < 2 ^ A.length) (hn : n < 2 ^ 63) : comb (power 63 A (units 0 A.length) n) o = mk A o n := by
  rw [comb_power 63 A _ n o hn, mk_itr]
  have h : itr A n o < 2 ^ A.length := by rw [← mk_itr]; exact mk_lt hA ho n
  rw [comb_units A.length 0 _ h]; simp
/-- What is seen, as numbers. -/
def natP (l : List (Int × Int)) : List (Nat × Nat) := l.map fun x => (x.1.toNat, x.2.toNat)
def npairs (l : List (Nat × Nat)) : List (Int × Int) := l.map fun x => ((x.1 : Int), (x.2 : Int))
theorem natP_npairs (l : List (Nat × Nat)) : natP (npairs l) = l := by
  induction l with
  | nil => rfl
  | cons x r ih => simp only [natP, npairs, List.map_cons] at ih ⊢; rw [ih]; simp
theorem npairs_length (l : List (Nat × Nat)) : (npairs l).length = l.length := by simp [npairs]
def sen1 (x : Int × Int) : Bool := inR x.1 0 10000 && inR x.2 0 1
def senOk (l : List (Int × Int)) : Bool := decide (l.length ≤ 64) && l.all sen1
theorem sen_nat : ∀ {l : List (Int × Int)}, l.all sen1 = true → ∃ S : List (Nat × Nat), l = npairs S ∧ ∀ x ∈ S, x.1 ≤ 10000 ∧ x.2 ≤ 1
  | [], _ => ⟨[], rfl, by simp⟩
  | x :: r, h => by
    rw [List.all_cons, Bool.and_eq_true] at h
    obtain ⟨S, rfl, hS⟩ := sen_nat h.2
    have h1 := h.1
    simp only [sen1, Bool.and_eq_true] at h1
    have a := inR_iff.1 h1.1
    have b := inR_iff.1 h1.2
    refine ⟨(x.1.toNat, x.2.toNat) :: S, ?_, ?_⟩
    · obtain ⟨x1, x2⟩ := x
      simp only [npairs, List.map_cons] at *
      congr 2 <;> simp <;> omega
    · intro y hy
      rcases List.mem_cons.1 hy with rfl | hy
      · simp; omega
      · exact hS y hy
/-- The equations of what is seen. -/
def seqs (w : Nat) (A : List Nat) (o : Nat) (S : List (Nat × Nat)) : List Nat := S.map fun x => eqn w (mk A o x.1) x.2
theorem seqs_lt {A : List Nat} {o w : Nat} (hA : ∀ r ∈ A, r < 2 ^ w) (ho : o < 2 ^ w) {S : List (Nat × Nat)} (hS : ∀ x ∈ S, x.1 ≤ 10000 ∧ x.2 ≤ 1) : ∀ e ∈ seqs w A o S, e < 2 ^ (w + 1) := by
  intro e he
  obtain ⟨x, hx, rfl⟩ := List.mem_map.1 he
  exact eqn_lt (mk_lt hA ho _) (hS x hx).2
theorem pairs_get {l : List (Int × Int)} {i : Nat} {a b : Int} (h : l[i]? = some (a, b)) : getCells (pairs l) (i * 2) 2 = some [.int .i64 a, .int .i64 b] ∧ getCells (pairs l) (i * 2) 1 = some [.int .i64 a] ∧ getCells (pairs l) (i * 2 + 1) 1 = some [.int .i64 b] := by
  induction l generalizing i with
  | nil => simp at h
  | cons x l ih =>
    obtain ⟨x1, x2⟩ := x
    cases i with
    | zero =>
      simp at h
      obtain ⟨rfl, rfl⟩ := h
      exact ⟨by simp [pairs, getCells, dropN, takeN], by simp [pairs, getCells, dropN, takeN], by simp [pairs, getCells, dropN, takeN]⟩
    | succ i =>
      have := ih (i := i) (by simpa using h)
      have e : (i + 1) * 2 = i * 2 + 1 + 1 := by omega
      have e2 : (i + 1) * 2 + 1 = i * 2 + 1 + 1 + 1 := by omega
      refine ⟨?_, ?_, ?_⟩
      · rw [e]; simpa [pairs, getCells, dropN] using this.1
      · rw [e]; simpa [pairs, getCells, dropN] using this.2.1
      · rw [e2]; simpa [pairs, getCells, dropN] using this.2.2
theorem pairs_length (l : List (Int × Int)) : (pairs l).length = l.length * 2 := by
  induction l with
  | nil => rfl
  | cons x l ih => obtain ⟨a, b⟩ := x; simp [pairs, ih]; omega
theorem eqvs_pairs : ∀ (l : List (Int × Int)), eqvs (pairs l) (pairs l) = true
  | [] => rfl
  | (a, b) :: r => by simp only [pairs, eqvs, AV.eqv, eqvs_pairs r]; simp

set_option maxHeartbeats 2000000 in
theorem c121 (A : List Nat) (o a b : Nat) (h16 : A.length ≤ 16) (hA : ∀ r ∈ A, r < 2 ^ A.length) (ho : o < 2 ^ A.length) (ha : a ≤ 10000) (hb : b ≤ 1) (σ : St) (q : Nat) (x : Blk) (hq : σ.get q = some x) (hqn : q < σ.n) (hx : x.cells = lin A.length (nints A) o) :
    ∃ σ', callI TT 121 [.ptr q 0, .agg [.int .i64 a, .int .i64 b]] σ = some (.int .i64 (eqn A.length (mk A o a) b : Nat), σ') ∧ Old σ σ' := by
  obtain ⟨σ1, hσ1⟩ : ∃ σ1, σ.push ⟨[.int .i64 a, .int .i64 b], 2, false⟩ = σ1 := ⟨_, rfl⟩
  have hq1 : σ1.get q = some x := by subst hσ1; rw [get_push_lt hqn]; exact hq
  have hs1 : σ1.get σ.n = some ⟨[.int .i64 a, .int .i64 b], 2, false⟩ := by subst hσ1; exact get_push_same
  have hn1 : σ1.n = σ.n + 1 := by subst hσ1; rfl
  have hA62 : ∀ r ∈ A, r < 2 ^ 62 := fun r hr => w62 h16 (hA r hr)
  obtain ⟨b2, σ2, c2, r2, o2, e2⟩ := (s109 A hA62 (by omega) a (by omega)).row (σ := σ1) (args := [.lst A.length (ints (nints A)), .int .i64 a]) rfl
  have hpl : (power 63 A (units 0 A.length) a).length = A.length := power_length 63 A _ a (by rw [units_length])
  rw [nints_length, hpl] at c2
  have hp16 : ∀ r ∈ power 63 A (units 0 A.length) a, r < 2 ^ 62 := fun r hr => pow_62 (power_16 63 A _ a (fun r hr => Nat.lt_of_lt_of_le (hA r hr) (pw_16 h16)) (units_16 h16) r hr)
  have hfz : mapO (frzV σ2 frzDepth) [.int .i64 (o : Int), .sl b2 0 A.length A.length] = some [.int .i64 (o : Int), .lst (power 63 A (units 0 A.length) a).length (ints (nints (power 63 A (units 0 A.length) a)))] := mapO_cons rfl (mapO_cons (by rw [hpl]; exact r2.frz (d := 4) (by rw [nints_length, hpl]) (Nat.le_refl _)) rfl)
  have c3 := v137 (power 63 A (units 0 A.length) a) hp16 (by omega) o (w62 h16 ho) σ2 _ hfz
  rw [row_mk hA ho (by omega)] at c3
  have old2 : ∀ c, c ≤ σ.n → σ2.get c = σ1.get c := fun c hc => o2.2 c (by omega)
  have k0 : cellsAt σ1 (.ptr q 0) 1 = some [.int .i64 A.length] := by simp [cellsAt, hq1, hx, lin, getCells, takeN, dropN]
  have k1 : cellsAt σ1 (.ptr q 1) 1 = some [.lst A.length (ints (nints A))] := by simp [cellsAt, hq1, hx, lin, getCells, takeN, dropN, nints_length]
  have k2 : cellsAt σ1 (.ptr q 2) 1 = some [.int .i64 o] := by simp [cellsAt, hq1, hx, lin, getCells, takeN, dropN]
  have k3 : cellsAt σ1 (.ptr σ.n 0) 1 = some [.int .i64 a] := by simp [cellsAt, hs1, getCells, takeN, dropN]
  have k4 : cellsAt σ1 (.ptr σ.n 1) 1 = some [.int .i64 b] := by simp [cellsAt, hs1, getCells, takeN, dropN]
  have j0 : cellsAt σ2 (.ptr q 0) 1 = some [.int .i64 A.length] := by rw [← k0]; simp only [cellsAt]; rw [old2 q (by omega)]
  have j2 : cellsAt σ2 (.ptr q 2) 1 = some [.int .i64 o] := by rw [← k2]; simp only [cellsAt]; rw [old2 q (by omega)]
  have j4 : cellsAt σ2 (.ptr σ.n 1) 1 = some [.int .i64 b] := by rw [← k4]; simp only [cellsAt]; rw [old2 σ.n (by omega)]
  have u1 := n_wrapu (a := A.length) (by omega)
  have hw16 : 2 ^ A.length ≤ 65536 := pw_16 h16
  have hbl : b * 2 ^ A.length ≤ 1 * 65536 := Nat.mul_le_mul hb hw16
  have s1 := sh_l (a := b) (b := A.length) (by omega) (by omega)
  have hmk := mk_lt hA ho a
  have s2 := n_or (a := mk A o a) (b := shlN b A.length) (by omega) (by show b * 2 ^ A.length ≤ _; omega)
  have s3 : orN (mk A o a) (shlN b A.length) = eqn A.length (mk A o a) b := rfl
  rw [s3] at s2
  refine ⟨σ2, ?_, by subst hσ1; exact Old.push.trans o2⟩
  rw [cI_0 fn121 rfl md121, fi121]
  simp [xI_seq, xI_region, xI_ret, regA, regOps, runOps, opStep, wantedA, opA, evo, evos, calleeA, lk, nif_eq, putE, paramsE, valS, val2, keepE, restrict, finA, resA, binA, binInt, ofConst, ofConst1, loadA, TK.isAgg, asVar, unA, builtinA, lenOpA, lenA, ileb_cast, ileb_eq, ieqb_dec, indexAddrA, inB_dec, evPairs, storeA, AV.cellsOf, pairsOf, xI_nil, binBool, gcE, evOpt, xI_block, xI_loopH, xI_condM, xI_exitM, xI_skip, xI_blk, exitA, ty2, ty33, ty41, ty73, ty76, runTr, pairsOk, pairOk, lstAt, lastOf, sameVal, AV.eqv, eqvs, eqvs_ints, regOps, blt_dec, cond_true, cond_false, fieldAddrA, allOne, AV.one, ty2, ty33, ty41, ty76, hσ1, k0, k1, k2, k3, k4, j0, j2, j4, c2, c3, u1, s1, s2, convA, ty73]

end Go.Proofs.Ytonnbgjbohbibaa
