/- Law: ranks of outputs. Nothing is claimed here; no condition. -/
import Derived.Test.YtonnbgjbohbibaaGb
namespace Go.Proofs.Ytonnbgjbohbibaa
open Go Go.Abs
set_option linter.unusedSimpArgs false
set_option linter.unusedVariables false
open Go.Wd
/-- Outputs that are 0. -/
def zB (A : List Nat) (k : Nat) : Nat → Nat → Bool
  | 0, _ => true
  | n + 1, x => decide (par (andN k x) = 0) && zB A k n (app A x)
theorem zB_iff (A : List Nat) (k : Nat) : ∀ (n x : Nat), zB A k n x = true ↔ ∀ i, i < n → par (andN k (steps A i x)) = 0
  | 0, x => ⟨fun _ i h => absurd h (by omega), fun _ => rfl⟩
  | n + 1, x => by
    simp only [zB, Bool.and_eq_true, decide_eq_true_eq, zB_iff A k n]
    constructor
    · rintro ⟨h1, h2⟩ i hi
      cases i with
      | zero => exact h1
      | succ i => exact h2 i (by omega)
    · intro h
      exact ⟨h 0 (by omega), fun i hi => h (i + 1) (by omega)⟩
theorem zB_less {A : List Nat} {k n m x : Nat} (h : m ≤ n) (hz : zB A k n x = true) : zB A k m x = true := (zB_iff A k m x).2 fun i hi => (zB_iff A k n x).1 hz i (by omega)
/-- From where no output tells more, none does. -/
theorem zB_stable {A : List Nat} {k j : Nat} (hs : ∀ x, x < 2 ^ A.length → zB A k j x = true → zB A k (j + 1) x = true) : ∀ (n x : Nat), x < 2 ^ A.length → zB A k j x = true → zB A k (j + n) x = true
  | 0, _, _, hz => hz
  | n + 1, x, hx, hz => by
    have h1 := hs x hx hz
    simp only [zB, Bool.and_eq_true] at h1
    have h2 := zB_stable hs n (app A x) (app_lt A x) h1.2
    show zB A k ((j + n) + 1) x = true
    simp only [zB, Bool.and_eq_true]
    exact ⟨h1.1, h2⟩
theorem zB_sol {A : List Nat} {k : Nat} (h : Mach A k) {n x : Nat} (hx : x < 2 ^ A.length) : zB A k n x = solB A.length (mks A k n) x := by
  have hw : A.length < 64 := by have := h.few; omega
  rw [Bool.eq_iff_iff, zB_iff, solB_iff]
  simp only [SolS, mks, List.mem_map, List.mem_range]
  constructor
  · rintro hz e ⟨i, hi, rfl⟩
    have := par_eqn hw (mk_lt h.rows h.out i) hx (show 0 ≤ 1 by decide)
    rw [Nat.zero_mul, Nat.or_zero, Nat.xor_zero, mk_par (show A.length ≤ 64 by omega) k i x] at this
    exact (show par (mk A k i &&& (x ||| 2 ^ A.length)) = _ from this).trans (hz i hi)
  · intro hz i hi
    have := par_eqn hw (mk_lt h.rows h.out i) hx (show 0 ≤ 1 by decide)
    rw [Nat.zero_mul, Nat.or_zero, Nat.xor_zero, mk_par (show A.length ≤ 64 by omega) k i x] at this
    exact this.symm.trans (hz _ ⟨i, hi, rfl⟩)
theorem add_length {w : Nat} {rows rows' : List Nat} {e : Nat} (h : add w rows e = some rows') : rows'.length ≤ rows.length + 1 := by
  unfold add at h
  simp only at h
  split at h
  · split at h
    · cases h; omega
    · cases h
  · cases h; simp
theorem addAll_length {w : Nat} : ∀ (es rows rows' : List Nat), addAll w rows es = some rows' → rows'.length ≤ rows.length + es.length
  | [], _, _, h => by simp only [addAll] at h; cases h; simp
  | e :: es, rows, rows', h => by
    simp only [addAll] at h
    cases ha : add w rows e with
    | none => rw [ha] at h; cases h
    | some rows1 =>
      rw [ha] at h
      have h1 := add_length ha
      have h2 := addAll_length es rows1 rows' h
      simp only [List.length_cons]; omega
/-- As many states are silent as the rank says. -/
def Rk (A : List Nat) (k n r : Nat) : Prop := r ≤ A.length ∧ r ≤ n ∧ cnt A.length (zB A k n) * 2 ^ r = 2 ^ A.length
theorem rk_rows {A : List Nat} {k : Nat} (h : Mach A k) (n : Nat) {rows : List Nat} (ha : addAll A.length [] (mks A k n) = some rows) : Rk A k n rows.length := by
  have hw : A.length < 64 := by have := h.few; omega
  have hb : ∀ e ∈ mks A k n, e < 2 ^ (A.length + 1) := fun e he => by
    obtain ⟨i, _, rfl⟩ := List.mem_map.1 he
    have := mk_lt h.rows h.out i
    rw [Nat.pow_succ]; omega
  obtain ⟨_, _, h3, h4, h5⟩ := (addAll_can hw hb).2 rows ha
  have h6 := addAll_length _ _ _ ha
  rw [mks_length] at h6
  refine ⟨h3, by simpa using h6, ?_⟩
  rw [← cnt_red hw rows h4]
  congr 1
  refine cnt_congr _ fun x hx => ?_
  rw [zB_sol h hx, Bool.eq_iff_iff, solB_iff, solB_iff, ← sol_full hx, ← sol_full hx]
  exact (h5 _).symm
theorem rk_any {A : List Nat} {k : Nat} (h : Mach A k) (n : Nat) : ∃ r, Rk A k n r := by
  have hw : A.length < 64 := by have := h.few; omega
  obtain ⟨rows, ha⟩ := addAll_zero hw (es := mks A k n) (fun e he => by obtain ⟨i, _, rfl⟩ := List.mem_map.1 he; exact mk_lt h.rows h.out i)
  exact ⟨_, rk_rows h n ha⟩
theorem pow_ne {a b : Nat} (h : 2 ^ a = 2 ^ b) : a = b := Nat.pow_right_inj (by decide) |>.1 h
theorem rk_one {A : List Nat} {k n m r s : Nat} (h1 : Rk A k n r) (h2 : Rk A k m s) (hc : cnt A.length (zB A k n) = cnt A.length (zB A k m)) : r = s := by
  have a := h1.2.2
  have b := h2.2.2
  rw [hc] at a
  have c := a.trans b.symm
  have hp : 0 < cnt A.length (zB A k m) := by
    refine Nat.pos_of_ne_zero fun h0 => ?_
    rw [h0, Nat.zero_mul] at b
    have := Nat.two_pow_pos A.length
    omega
  exact pow_ne (Nat.eq_of_mul_eq_mul_left hp c)
theorem cnt_pos {k : Nat} {p : Nat → Bool} {x : Nat} (hx : x < 2 ^ k) (hp : p x = true) : 0 < cnt k p := by rw [← C_cnt]; exact C_pos hx hp
/-- Where one output more tells more, the rank grows. -/
theorem rk_grow {A : List Nat} {k n r s x : Nat} (h1 : Rk A k n r) (h2 : Rk A k (n + 1) s) (hx : x < 2 ^ A.length) (z1 : zB A k n x = true) (z2 : zB A k (n + 1) x = false) : r < s := by
  have sp := cnt_split A.length (zB A k n) (zB A k (n + 1))
  have e1 : cnt A.length (fun x => zB A k n x && zB A k (n + 1) x) = cnt A.length (zB A k (n + 1)) := cnt_congr _ fun y _ => by
    cases hy : zB A k (n + 1) y with
    | false => simp
    | true => rw [zB_less (Nat.le_succ n) hy]; rfl
  have e2 := cnt_pos (p := fun x => zB A k n x && !zB A k (n + 1) x) hx (by simp [z1, z2])
  rw [e1] at sp
  refine Nat.lt_of_not_le fun hle => ?_
  have a := h1.2.2
  have b := h2.2.2
  have hpow : 2 ^ s ≤ 2 ^ r := Nat.pow_le_pow_right (by decide) hle
  have h3 : cnt A.length (zB A k (n + 1)) * 2 ^ s < cnt A.length (zB A k n) * 2 ^ r :=
    Nat.lt_of_lt_of_le (Nat.mul_lt_mul_of_pos_right (by omega) (Nat.two_pow_pos s)) (Nat.mul_le_mul_left _ hpow)
  omega
def Stable (A : List Nat) (k j : Nat) : Prop := ∀ x, x < 2 ^ A.length → zB A k j x = true → zB A k (j + 1) x = true
theorem first_stable (P : Nat → Prop) : ∀ n, (∀ i, i < n → ¬ P i) ∨ ∃ j, j < n ∧ P j ∧ ∀ i, i < j → ¬ P i
  | 0 => .inl fun i h => absurd h (by omega)
  | n + 1 => by
    rcases first_stable P n with h | ⟨j, h1, h2, h3⟩
    · by_cases hn : P n
      · exact .inr ⟨n, by omega, hn, h⟩
      · refine .inl fun i hi => ?_
        by_cases e : i = n
        · rw [e]; exact hn
        · exact h i (by omega)
    · exact .inr ⟨j, by omega, h2, h3⟩
theorem rk_unstable {A : List Nat} {k : Nat} (h : Mach A k) : ∀ n, (∀ i, i < n → ¬ Stable A k i) → ∃ r, Rk A k n r ∧ n ≤ r
  | 0, _ => by obtain ⟨r, hr⟩ := rk_any h 0; exact ⟨r, hr, Nat.zero_le _⟩
  | n + 1, hu => by
    obtain ⟨r, hr, hn⟩ := rk_unstable h n fun i hi => hu i (by omega)
    obtain ⟨s, hs⟩ := rk_any h (n + 1)
    refine ⟨s, hs, ?_⟩
    obtain ⟨x, hx, z1, z2⟩ : ∃ x, x < 2 ^ A.length ∧ zB A k n x = true ∧ zB A k (n + 1) x = false := by
      refine Classical.byContradiction fun hc => hu n (by omega) fun x hx hz => ?_
      cases h2 : zB A k (n + 1) x with
      | true => rfl
      | false => exact absurd ⟨x, hx, hz, h2⟩ hc
    have := rk_grow hr hs hx z1 z2
    omega
/-- The rank of the outputs: from there on nothing is told. -/
theorem rank_stable {A : List Nat} {k : Nat} (h : Mach A k) : ∃ r, r = (pivots A.length A.length (mks A k A.length)).length ∧ Rk A k r r ∧ ∀ n x, r ≤ n → x < 2 ^ A.length → zB A k r x = true → zB A k n x = true := by
  have hw : A.length < 64 := by have := h.few; omega
  have hj : ∃ j, Stable A k j ∧ ∀ i, i < j → ¬ Stable A k i := by
    rcases first_stable (Stable A k) (A.length + 1) with hu | ⟨j, _, h2, h3⟩
    · obtain ⟨r, hr, hn⟩ := rk_unstable h (A.length + 1) hu
      have := hr.1
      omega
    · exact ⟨j, h2, h3⟩
  obtain ⟨j, hs, hu⟩ := hj
  obtain ⟨r, hr, hn⟩ := rk_unstable h j hu
  obtain rfl : r = j := Nat.le_antisymm hr.2.1 hn
  have all : ∀ n x, r ≤ n → x < 2 ^ A.length → zB A k r x = true → zB A k n x = true := fun n x hn hx hz => by
    obtain ⟨d, rfl⟩ := Nat.exists_eq_add_of_le hn
    exact zB_stable hs d x hx hz
  refine ⟨r, ?_, hr, all⟩
  have hb : ∀ e ∈ mks A k A.length, e < 2 ^ A.length := fun e he => by obtain ⟨i, _, rfl⟩ := List.mem_map.1 he; exact mk_lt h.rows h.out i
  obtain ⟨rows, ha⟩ := addAll_zero hw hb
  have e1 := rank_eq hw hb ha
  rw [mks_length] at e1
  rw [← e1]
  refine rk_one hr (rk_rows h _ ha) (cnt_congr _ fun x hx => ?_)
  rw [Bool.eq_iff_iff]
  exact ⟨fun hz => all _ x hr.1 hx hz, fun hz => zB_less hr.1 hz⟩
/-! Outputs that agree -/
theorem par_same {k x a : Nat} : par (andN k (x ^^^ a)) = 0 ↔ par (andN k x) = par (andN k a) := by
  show par (k &&& (x ^^^ a)) = 0 ↔ par (k &&& x) = par (k &&& a)
  rw [Nat.and_xor_distrib_left, par_xor]
  have h1 := par_lt (k &&& x)
  have h2 := par_lt (k &&& a)
  generalize par (k &&& x) = u at *
  generalize par (k &&& a) = v at *
  rcases (show u = 0 ∨ u = 1 by omega) with rfl | rfl <;> rcases (show v = 0 ∨ v = 1 by omega) with rfl | rfl <;> simp
theorem bb_inj {u v : Nat} (h1 : u < 2) (h2 : v < 2) (h : bb u = bb v) : u = v := by
  rcases (show u = 0 ∨ u = 1 by omega) with rfl | rfl <;> rcases (show v = 0 ∨ v = 1 by omega) with rfl | rfl <;> first | rfl | (exfalso; revert h; decide)
theorem outB_same {A : List Nat} {k : Nat} : ∀ (n x a : Nat), outB A k n x = outB A k n a ↔ zB A k n (x ^^^ a) = true
  | 0, _, _ => by simp [outB, zB]
  | n + 1, x, a => by
    simp only [outB, zB, Bool.and_eq_true, decide_eq_true_eq, par_same, List.cons.injEq, app_xor, outB_same n]
    constructor
    · rintro ⟨h1, h2⟩; exact ⟨bb_inj (par_lt _) (par_lt _) h1, h2⟩
    · rintro ⟨h1, h2⟩; exact ⟨by rw [h1], h2⟩
theorem outB_take (A : List Nat) (k : Nat) : ∀ (r n t : Nat), r ≤ n → (outB A k n t).take r = outB A k r t
  | 0, _, _, _ => by simp [outB]
  | r + 1, 0, _, h => absurd h (by omega)
  | r + 1, n + 1, t, h => by simp only [outB, List.take_succ_cons, outB_take A k r n (app A t) (by omega)]
/-- What outputs show, as the law writes it. -/
def seenB (A : List Nat) (k : Nat) : Nat → Nat → Nat → List (Nat × Nat)
  | _, 0, _ => []
  | j, n + 1, u => (j, par (andN k u)) :: seenB A k (j + 1) n (app A u)
theorem seenB_length (A : List Nat) (k : Nat) : ∀ j n u, (seenB A k j n u).length = n
  | _, 0, _ => rfl
  | j, n + 1, u => by simp [seenB, seenB_length A k (j + 1) n]
theorem seenB_le (A : List Nat) (k : Nat) : ∀ j n u, ∀ s ∈ seenB A k j n u, s.1 < j + n ∧ s.2 ≤ 1
  | _, 0, _, s, h => by simp [seenB] at h
  | j, n + 1, u, s, h => by
    simp only [seenB, List.mem_cons] at h
    rcases h with rfl | h
    · have := par_lt (andN k u); exact ⟨by simp, by simp; omega⟩
    · have := seenB_le A k (j + 1) n _ s h; omega
theorem seenB_fit (A : List Nat) (k x : Nat) : ∀ (n j u : Nat), fitS A k (seenB A k j n u) x = zB A k n (steps A j x ^^^ u)
  | 0, _, _ => rfl
  | n + 1, j, u => by
    have ih := seenB_fit A k x n (j + 1) (app A u)
    simp only [fitS, seenB, List.all_cons, zB] at ih ⊢
    rw [ih, steps_one, app_xor]
    congr 1
    rw [decide_eq_decide, par_same]
theorem cnt_xor : ∀ (k a : Nat) (p : Nat → Bool), a < 2 ^ k → cnt k (fun x => p (x ^^^ a)) = cnt k p
  | 0, a, p, h => by
    obtain rfl : a = 0 := by simpa using h
    simp
  | k + 1, a, p, h => by
    have low : ∀ (a : Nat) (p : Nat → Bool), a < 2 ^ k → cnt (k + 1) (fun x => p (x ^^^ a)) = cnt (k + 1) p := fun a p ha => by
      simp only [cnt]
      rw [cnt_xor k a p ha]
      congr 1
      rw [← cnt_xor k a (fun x => p (x + 2 ^ k)) ha]
      refine cnt_congr k fun x hx => ?_
      have hxa : x ^^^ a < 2 ^ k := Nat.xor_lt_two_pow hx ha
      rw [← flip_top hx, ← flip_top hxa, Nat.xor_assoc, Nat.xor_comm (2 ^ k), ← Nat.xor_assoc]
    by_cases ha : a < 2 ^ k
    · exact low a p ha
    · have h2 : 2 ^ (k + 1) = 2 ^ k + 2 ^ k := by rw [Nat.pow_succ]; omega
      have hb : a - 2 ^ k < 2 ^ k := by omega
      have e : a = (a - 2 ^ k) ^^^ 2 ^ k := by rw [flip_top hb]; omega
      rw [e, ← cnt_flip (k + 1) p (show k < k + 1 by omega), ← low (a - 2 ^ k) (fun x => p (x ^^^ 2 ^ k)) hb]
      refine cnt_congr _ fun x _ => ?_
      rw [Nat.xor_assoc]
/-- The states behind the first outputs: as many as the rank leaves. -/
theorem rank_behind {A : List Nat} {k a r : Nat} (h : Mach A k) (ha : a < pw A.length) (hr : Rk A k r r) (hr2 : r ≤ 16) : ∃ rows, addAll A.length [] (seqs A.length A k (seenB A k 0 r a)) = some rows ∧ rows.length = r := by
  have hle : ∀ s ∈ seenB A k 0 r a, s.1 ≤ 10000 ∧ s.2 ≤ 1 := fun s hs => by have := seenB_le A k 0 r a s hs; omega
  have all := behind_all h hle 0
  have hfit : ∀ x, fitS A k (seenB A k 0 r a) x = zB A k r (x ^^^ a) := fun x => seenB_fit A k x r 0 a
  have hself : fitS A k (seenB A k 0 r a) a = true := by rw [hfit, Nat.xor_self]; exact (zB_iff A k r 0).2 fun i _ => by
                                                          have : ∀ i, steps A i 0 = 0 := fun i => by
                                                            induction i with
                                                            | zero => rfl
                                                            | succ i ih => rw [steps_one, ih, app_zero]
                                                          rw [this]; show par (k &&& 0) = 0; rw [Nat.and_zero, par_zero]
  cases he : addAll A.length [] (seqs A.length A k (seenB A k 0 r a)) with
  | none =>
    have h0 := C_zero.1 (all.1 he) a ha
    rw [hself] at h0; cases h0
  | some rows =>
    refine ⟨rows, rfl, ?_⟩
    obtain ⟨_, h2, _⟩ := all.2 rows he
    have hw : A.length < 64 := by have := h.few; omega
    have rl := ((addAll_can hw (seqs_lt h.rows h.out hle)).2 rows he).2.2.1
    have e1 : C (fitS A k (seenB A k 0 r a)) (pw A.length) = cnt A.length (zB A k r) := by
      show C _ (2 ^ A.length) = _
      rw [C_cnt, ← cnt_xor A.length a (zB A k r) ha]
      exact cnt_congr _ fun x _ => hfit x
    have h3 := hr.2.2
    rw [← e1, h2, show pw (A.length - rows.length) = 2 ^ (A.length - rows.length) from rfl, ← Nat.pow_add] at h3
    have := pow_ne h3
    have := hr.1
    omega

noncomputable def b66 : Code := Try.f66.body.getD .skip
noncomputable def B66_0 : Code := (bodyC (bodyC (sndC (fstC (sndC (sndC b66))))))
noncomputable def K66_0 : List It := .lp B66_0 :: .blk 0 :: .code (sndC (sndC (sndC b66))) :: []
theorem xl66_0 {fi : FI} {env : Env} {σ : St} : exI TT fi K66_0 env σ = exI TT fi (.code B66_0 :: K66_0) env σ := by unfold K66_0; exact xI_lp
noncomputable def R66_0_0 : List It := .code (sndC (sndC (sndC b66))) :: []
theorem eK66_0_0 : exitA 0 K66_0 = some R66_0_0 := rfl
theorem l66 (A : List Nat) (k : Nat) (L : List UInt8) (len : Nat) (hlen : len = L.length) (hl : len ≤ 1000) : ∀ (m j u : Nat) (S : List (Nat × Nat)) (b : Nat) (σ : St), (∀ i, i < m → L[j + i]? = some (bb (par (andN k (steps A i u))))) → j + m = len → S.length = j → PRow σ b (npairs S) →
    ∃ σ' b', exI TT (FI.of Try.f66 (TT.an 66)) K66_0 [(0, .str L), (3, .sl b 0 j j), (4, .int .i64 j)] σ = some (.sl b' 0 len len, σ') ∧ PRow σ' b' (npairs (S ++ seenB A k j m u)) := by
  intro m
  induction m with
  | zero =>
    intro j u S b σ hL hj hS hr
    obtain rfl : j = len := by omega
    refine ⟨σ, b, ?_, by simpa [seenB] using hr⟩
    rw [fi66]
    rw [xl66_0]
    simp only [B66_0, b66, Try.f66, Option.getD, fstC, sndC, bodyC, thnC, elsC]
    simp [xI_seq, xI_region, xI_ret, regA, regOps, runOps, opStep, wantedA, opA, evo, evos, calleeA, lk, nif_eq, putE, paramsE, valS, val2, keepE, restrict, finA, resA, binA, binInt, ofConst, ofConst1, loadA, TK.isAgg, asVar, unA, builtinA, lenOpA, lenA, ileb_cast, ileb_eq, ieqb_dec, indexAddrA, inB_dec, evPairs, storeA, AV.cellsOf, pairsOf, xI_nil, binBool, gcE, evOpt, xI_block, xI_loopH, xI_condM, xI_exitM, xI_skip, xI_blk, exitA, ty2, ty3, ty5, ty9, ty74, ty76, eK66_0_0, ty9, ← hlen]
    simp only [R66_0_0, b66, Try.f66, Option.getD, fstC, sndC, bodyC, thnC, elsC]
    simp [xI_seq, xI_region, xI_ret, regA, regOps, runOps, opStep, wantedA, opA, evo, evos, calleeA, lk, nif_eq, putE, paramsE, valS, val2, keepE, restrict, finA, resA, binA, binInt, ofConst, ofConst1, loadA, TK.isAgg, asVar, unA, builtinA, lenOpA, lenA, ileb_cast, ileb_eq, ieqb_dec, indexAddrA, inB_dec, evPairs, storeA, AV.cellsOf, pairsOf, xI_nil, binBool, gcE, evOpt, xI_block, xI_loopH, xI_condM, xI_exitM, xI_skip, xI_blk, exitA, ty2, ty3, ty5, ty9, ty74, ty76, eK66_0_0]
  | succ m ih =>
    intro j u S b σ hL hj hS hr
    have hlt : ¬ len ≤ j := by omega
    have hlt' : ¬ (len : Int) ≤ (j : Int) := by omega
    have hlt2 : j < len := by omega
    have hw := wrapS (n := j) (by omega)
    have hget : L[j]? = some (bb (par (andN k u))) := hL 0 (by omega)
    obtain ⟨_, hget2⟩ := List.getElem?_eq_some_iff.1 hget
    have hp2 := par_lt (andN k u)
    have b1 := bb_off hp2
    have hm0 : (0 : Int) ≤ (j : Int) := by omega
    obtain ⟨σ1, hap, hr1, hn1, u1⟩ := papp (a := (j : Int)) (c := (par (andN k u) : Nat)) hr (n := j) (by rw [npairs_length, hS]) (by omega)
    rw [← npairs_append] at hr1
    obtain ⟨σ', b', g1, g2⟩ := ih (j + 1) (app A u) (S ++ [(j, par (andN k u))]) (σ.n + 1) σ1 (fun i hi => by have := hL (i + 1) (by omega); rw [show j + 1 + i = j + (i + 1) by omega]; exact this) (by omega) (by simp [hS]) hr1
    refine ⟨σ', b', ?_, by simpa [seenB] using g2⟩
    rw [← g1]
    generalize par (andN k u) = pp at *
    rw [fi66]
    rw [xl66_0]
    simp only [B66_0, b66, Try.f66, Option.getD, fstC, sndC, bodyC, thnC, elsC]
    simp [xI_seq, xI_region, xI_ret, regA, regOps, runOps, opStep, wantedA, opA, evo, evos, calleeA, lk, nif_eq, putE, paramsE, valS, val2, keepE, restrict, finA, resA, binA, binInt, ofConst, ofConst1, loadA, TK.isAgg, asVar, unA, builtinA, lenOpA, lenA, ileb_cast, ileb_eq, ieqb_dec, indexAddrA, inB_dec, evPairs, storeA, AV.cellsOf, pairsOf, xI_nil, binBool, gcE, evOpt, xI_block, xI_loopH, xI_condM, xI_exitM, xI_skip, xI_blk, exitA, ty2, ty3, ty5, ty9, ty74, ty76, eK66_0_0, fieldAddrA, allOne, AV.one, indexA, ty2, ty3, ty4, ty5, ty9, ty29, ty33, ty41, ty73, ty74, ty76, convA, ← hlen, hlt, hlt', hlt2, hw, hm0, hget, hget2, b1, buildA, sizesOf, fillA, putCells, bsP1, hap]
theorem v66 (A : List Nat) (k n u : Nat) (hn : n ≤ 1000) : FnF TT 66 [.str (outB A k n u)] (.lst n (pairs (npairs (seenB A k 0 n u)))) := by
  obtain ⟨σ', b, g1, g2⟩ := l66 A k (outB A k n u) n (outB_length A k n u).symm hn n 0 u [] 0 ((⟨[], 0⟩ : St).push ⟨pairs [], 2, false⟩) (fun i hi => by rw [Nat.zero_add]; exact outB_get A k n i u hi) (by omega) rfl PRow_push
  rw [List.nil_append] at g2
  have hf := g2.frz (d := 4)
  rw [npairs_length, seenB_length] at hf
  refine FnF.mk fn66 rfl md66 ⟨σ', .sl b 0 n n, ?_, hf⟩
  simp only [show ((0 : Nat) : Int) = 0 from rfl] at g1
  rw [← g1, fi66]
  simp [xI_seq, xI_region, xI_ret, regA, regOps, runOps, opStep, wantedA, opA, evo, evos, calleeA, lk, nif_eq, putE, paramsE, valS, val2, keepE, restrict, finA, resA, binA, binInt, ofConst, ofConst1, loadA, TK.isAgg, asVar, unA, builtinA, lenOpA, lenA, ileb_cast, ileb_eq, ieqb_dec, indexAddrA, inB_dec, evPairs, storeA, AV.cellsOf, pairsOf, xI_nil, binBool, gcE, evOpt, xI_block, xI_loopH, xI_condM, xI_exitM, xI_skip, xI_blk, exitA, ty2, ty3, ty5, ty9, ty74, ty76, eK66_0_0, bsP0]
  rfl

theorem v19 (code : List Nat) (hb : ∀ x ∈ code, x < 256) (more : List Nat) (hm : ∀ x ∈ more, x < 256) : FnV TT 19 [.lst code.length (byts code), .lst more.length (byts more)] (.bool true) := by
  have eL := FnV.now (v25 code more) (fun _ => rfl)
  by_cases hlg : 48 < code.length ∨ 48 < more.length
  · have hlg' : (decide (48 < code.length) || decide (48 < more.length)) = true := by simpa using hlg
    rw [hlg'] at eL
    refine FnV.mk fn19 rfl md19 ⟨⟨[], 0⟩, ?_⟩ (fun _ => rfl) rfl
    rw [fi19]
    simp [xI_seq, xI_region, xI_ret, regA, regOps, runOps, opStep, wantedA, opA, evo, evos, calleeA, lk, nif_eq, putE, paramsE, valS, val2, keepE, restrict, finA, resA, binA, binInt, ofConst, ofConst1, loadA, TK.isAgg, asVar, unA, builtinA, lenOpA, lenA, ileb_cast, ileb_eq, ieqb_dec, indexAddrA, inB_dec, evPairs, storeA, AV.cellsOf, pairsOf, xI_nil, binBool, gcE, evOpt, xI_block, xI_loopH, xI_condM, xI_exitM, xI_skip, xI_blk, exitA, ty2, ty3, ty4, ty9, ty41, ty73, eL]
  · have hlg' : (decide (48 < code.length) || decide (48 < more.length)) = false := by simpa using hlg
    rw [hlg'] at eL
    obtain ⟨A, k, g1, g2, g3, g4, eM⟩ := v63 code hb (by omega)
    have h : Mach A k := ⟨g1, by omega, g3, g4⟩
    have eM := fun σ => eM σ [.lst code.length (byts code)] rfl rfl
    rw [mach_eq] at eM
    have few := h.few
    have p1 := pw_ge1 A.length
    have p3 := pw_le16 h.few
    obtain ⟨r, er, hr, hst⟩ := rank_stable h
    have r1 := hr.1
    obtain ⟨a, ha, ea⟩ := v27 more hm (by omega) 0 (by decide) (pw A.length) (by omega)
    obtain ⟨b, hb', eb⟩ := v27 more hm (by omega) 1 (by decide) (pw A.length) (by omega)
    replace ea := FnV.now ea (fun _ => rfl)
    replace eb := FnV.now eb (fun _ => rfl)
    simp only [show ((0 : Nat) : Int) = 0 from rfl] at ea
    simp only [show ((1 : Nat) : Int) = 1 from rfl] at eb
    have ha : a < pw A.length := by omega
    have hb' : b < pw A.length := by omega
    obtain ⟨σ1, hσ1⟩ : ∃ σ1, (⟨[], 0⟩ : St).push ⟨[.int .i64 0, .nilS, .int .i64 0], 3, false⟩ = σ1 := ⟨_, rfl⟩
    have D1 : LINB σ1 0 (.int .i64 0) .nilS (.int .i64 0) := by subst hσ1; exact get_push_same
    obtain ⟨σ, cs, D2, _, _⟩ := D1.s3 (in_one A.length) (show (AV.lst A.length (ints (nints A))).one = true from rfl) (in_one k)
    have g0 : cellsAt σ (.ptr 0 0) 1 = some [.int .i64 A.length] := by simp [cellsAt, (show σ.get 0 = _ from D2), getCells, takeN, dropN]
    have hg := D2.c3
    have z1 := cv73 σ (i := A.length) h.few
    have z2 : wrapA .i64 (shlA 1 (min A.length IntKind.i64.bits)) = ((pw A.length : Nat) : Int) := sh_1 (by omega)
    have c0 := FnV.now (v58 A.length (nints A) k h.len) (fun _ => rfl) σ
    have hrk : rkV A.length (nints A) k = (r : Int) := by
      unfold rkV
      rw [if_pos h.ok, nints_length, nats_nints, Int.toNat_natCast, ← er]
    rw [h.ok, hrk, mach_eq] at c0
    have c1 := m56 h ha (n := 30) (by decide) σ
    have c2 := m56 h hb' (n := 30) (by decide) σ
    have hX := outB_length A k 30 a
    have hY := outB_length A k 30 b
    have tX := outB_take A k r 30 a (by omega)
    have tY := outB_take A k r 30 b (by omega)
    have same : (outB A k r a = outB A k r b) ↔ (outB A k 30 a = outB A k 30 b) := by
      rw [outB_same, outB_same]
      exact ⟨fun hz => hst 30 _ (by omega) (Nat.xor_lt_two_pow ha hb') hz, fun hz => zB_less (by omega) hz⟩
    have hb1 : ((outB A k 30 a).take r == (outB A k 30 b).take r) = decide (outB A k 30 a = outB A k 30 b) := by
      rw [tX, tY, Bool.eq_iff_iff, beq_iff_eq, decide_eq_true_eq, same]
    have hb2 : (outB A k 30 a == outB A k 30 b) = decide (outB A k 30 a = outB A k 30 b) := by
      rw [Bool.eq_iff_iff, beq_iff_eq, decide_eq_true_eq]
    have c3 := v66 A k r a (by omega) σ [.str (outB A k r a)] rfl rfl
    rw [← tX] at c3
    obtain ⟨rows, hrows, hlen⟩ := rank_behind h ha hr (by omega)
    have hSl := seenB_length A k 0 r a
    have sok : senOk (npairs (seenB A k 0 r a)) = true := by
      simp only [senOk, Bool.and_eq_true, decide_eq_true_eq, npairs_length, List.all_eq_true]
      refine ⟨by omega, fun x hx => ?_⟩
      obtain ⟨s, hs, rfl⟩ := List.mem_map.1 hx
      have := seenB_le A k 0 r a s hs
      simp only [sen1, Bool.and_eq_true]
      exact ⟨inR_iff.2 ⟨by omega, by omega⟩, inR_iff.2 ⟨by omega, by omega⟩⟩
    have c4 := FnV.now (v64 A.length (nints A) k (npairs (seenB A k 0 r a)) h.len (by rw [npairs_length]; omega)) (fun _ => rfl) σ
    rw [stB_yes (by rw [h.ok, sok]; rfl), hrows, npairs_length, hSl, mach_eq] at c4
    simp only [stV, hlen] at c4
    generalize decide (outB A k 30 a = outB A k 30 b) = e at *
    generalize seenB A k 0 r a = S at *
    clear same tX tY hst hr
    generalize outB A k 30 a = X at *
    generalize outB A k 30 b = Y at *
    generalize least A.length rows = le at *
    have q1 : ¬ (A.length : Int) < (r : Int) := by omega
    have q2 : (r : Int) ≤ (A.length : Int) := by omega
    have q3 : ¬ (r : Int) < 0 := by omega
    have q4 : (0 : Int) ≤ (r : Int) := by omega
    have q5 : (r : Int) ≤ 30 := by omega
    have q6 : r ≤ 30 := by omega
    have q7 : wrapA .i64 ((A.length : Int) - (r : Int)) = ((A.length - r : Nat) : Int) := by rw [show (A.length : Int) - (r : Int) = ((A.length - r : Nat) : Int) by omega]; exact n_wrap (by omega)
    simp only [mach] at eM c0 c1 c2 c4
    simp only [show ((30 : Nat) : Int) = 30 from rfl] at c1 c2
    refine FnV.mk fn19 rfl md19 ⟨σ, ?_⟩ (fun _ => rfl) rfl
    rw [fi19]
    simp [xI_seq, xI_region, xI_ret, regA, regOps, runOps, opStep, wantedA, opA, evo, evos, calleeA, lk, nif_eq, putE, paramsE, valS, val2, keepE, restrict, finA, resA, binA, binInt, ofConst, ofConst1, loadA, TK.isAgg, asVar, unA, builtinA, lenOpA, lenA, ileb_cast, ileb_eq, ieqb_dec, indexAddrA, inB_dec, evPairs, storeA, AV.cellsOf, pairsOf, xI_nil, binBool, gcE, evOpt, xI_block, xI_loopH, xI_condM, xI_exitM, xI_skip, xI_blk, exitA, ty2, ty3, ty4, ty9, ty41, ty73, fieldAddrA, allOne, AV.one, indexA, ty2, ty3, ty4, ty5, ty9, ty29, ty33, ty41, ty73, ty74, ty76, runTr, pairsOk, pairOk, lstAt, lastOf, sameVal, AV.eqv, eqvs, eqvs_ints, regOps, blt_dec, cond_true, cond_false, binStr, sliceA, boundA, eL, eM, hσ1, cs, hg, g0, c0, q1, q2, q3, q4, q5, q6, z1, z2, ea, eb, c1, c2, hX, hY, hb1, hb2, c3, c4, q7]

end Go.Proofs.Ytonnbgjbohbibaa
