/- Contracts and law: ranks of outputs. Nothing is claimed here; no condition. -/
import Derived.Test.YtonnbgjbohbibaaEt
namespace Go.Proofs.Ytonnbgjbohbibaa
open Go Go.Abs
set_option linter.unusedSimpArgs false
set_option linter.unusedVariables false
open Go.Wd
/-- The masks whose parities with a state are the outputs. -/
def mk (A : List Nat) (o : Nat) : Nat → Nat
  | 0 => o
  | i + 1 => comb A (mk A o i)
def mks (A : List Nat) (o n : Nat) : List Nat := (List.range n).map (mk A o)
theorem mks_length (A : List Nat) (o n : Nat) : (mks A o n).length = n := by simp [mks]
theorem mks_succ (A : List Nat) (o n : Nat) : mks A o (n + 1) = mks A o n ++ [mk A o n] := by simp [mks, List.range_succ]
theorem mk_lt {A : List Nat} {o w : Nat} (hA : ∀ r ∈ A, r < 2 ^ w) (ho : o < 2 ^ w) : ∀ i, mk A o i < 2 ^ w
  | 0 => ho
  | i + 1 => comb_lt A hA _
theorem mks_lt {A : List Nat} {o w n : Nat} (hA : ∀ r ∈ A, r < 2 ^ w) (ho : o < 2 ^ w) : ∀ e ∈ mks A o n, e < 2 ^ w := by
  intro e he
  obtain ⟨i, _, rfl⟩ := List.mem_map.1 he
  exact mk_lt hA ho i
theorem neg_and {w u : Nat} (hw : w ≤ 16) (h0 : 0 < u) (hu : u < 2 ^ 62) (hl : lead w u < w) : bitsA .and .i64 (u : Int) (-(u : Int)) = some (.int .i64 ((pw (lead w u) : Nat) : Int)) := by
  obtain ⟨u', rfl⟩ : ∃ u', u = u' + 1 := ⟨u - 1, by omega⟩
  have h1 : smallNat .i64 ((u' + 1 : Nat) : Int) (-((u' + 1 : Nat) : Int)) = none := rfl
  unfold bitsA
  rw [h1]
  have h2 : (BitVec.ofInt IntKind.i64.bits ((u' + 1 : Nat) : Int) &&& BitVec.ofInt IntKind.i64.bits (-((u' + 1 : Nat) : Int))).toNat = pw (lead w (u' + 1)) := by
    have h3 := neg_bits (u := u' + 1) (by omega) (by omega)
    rw [and_neg_lead (w := w) (by omega) (by omega) hl] at h3
    exact h3
  simp only [h2]
  have hp2 := pw_16 (k := lead w (u' + 1)) (by omega)
  have h4 : IntKind.i64.wrap ((pw (lead w (u' + 1)) : Nat) : Int) = ((pw (lead w (u' + 1)) : Nat) : Int) := by rw [← wrapA_eq]; exact n_wrap (by omega)
  rw [h4]
theorem and_pw {x l : Nat} : (0 < andN x (pw l)) ↔ x.testBit l = true := by
  show 0 < x &&& 2 ^ l ↔ _
  rw [and_two_pow]
  cases h : x.testBit l
  · simp
  · simp [Nat.pow_pos]
/-- What clearing by a row makes of the rows behind it. -/
def cle (w e x : Nat) : Nat := if x.testBit (lead w e) = true then xorN x e else x
theorem pivots_cons (w k e : Nat) (es : List Nat) : pivots w (k + 1) (e :: es) = if e = 0 then pivots w k es else e :: pivots w k (es.map (cle w e)) := rfl

noncomputable def b104 : Code := Try.f104.body.getD .skip
noncomputable def B104_0 : Code := (bodyC (bodyC (sndC (fstC (sndC (sndC (sndC b104)))))))
noncomputable def K104_0 : List It := .lp B104_0 :: .blk 0 :: .code (sndC (sndC (sndC (sndC b104)))) :: []
theorem xl104_0 {fi : FI} {env : Env} {σ : St} : exI TT fi K104_0 env σ = exI TT fi (.code B104_0 :: K104_0) env σ := by unfold K104_0; exact xI_lp
noncomputable def R104_0_0 : List It := .code (sndC (sndC (sndC (sndC b104)))) :: []
theorem eK104_0_0 : exitA 0 K104_0 = some R104_0_0 := rfl
theorem l104 (A : List Nat) (o c : Nat) (h16 : A.length ≤ 16) (hA : ∀ r ∈ A, r < 2 ^ 62) (ho : o < 2 ^ 62) (hc : c ≤ 100000) (p : Nat) (x : Blk) (hx : x.cells = lin A.length (nints A) o) : ∀ (m i : Nat) (σ : St) (b : Nat), i + m = c → p < b → σ.get p = some x → Row σ b (nints (mks A o i)) →
    ∃ σ' b', exI TT (FI.of Try.f104 (TT.an 104)) K104_0 [(0, .ptr p 0), (1, .int .i64 c), (5, .sl b 0 i i), (6, .int .i64 (mk A o i : Nat)), (7, .int .i64 i)] σ = some (.sl b' 0 c c, σ') ∧ Row σ' b' (nints (mks A o c)) := by
  intro m
  induction m with
  | zero =>
    intro i σ b hi hpb hp hr
    obtain rfl : i = c := by omega
    refine ⟨σ, b, ?_, hr⟩
    rw [fi104]
    rw [xl104_0]
    simp only [B104_0, b104, Try.f104, Option.getD, fstC, sndC, bodyC, thnC, elsC]
    simp [xI_seq, xI_region, xI_ret, regA, regOps, runOps, opStep, wantedA, opA, evo, evos, calleeA, lk, nif_eq, putE, paramsE, valS, val2, keepE, restrict, finA, resA, binA, binInt, ofConst, ofConst1, loadA, TK.isAgg, asVar, unA, builtinA, lenOpA, lenA, ileb_cast, ileb_eq, ieqb_dec, indexAddrA, inB_dec, evPairs, storeA, AV.cellsOf, pairsOf, xI_nil, binBool, gcE, evOpt, xI_block, xI_loopH, xI_condM, xI_exitM, xI_skip, xI_blk, exitA, ty2, ty33, ty41, eK104_0_0]
    simp only [R104_0_0, b104, Try.f104, Option.getD, fstC, sndC, bodyC, thnC, elsC]
    simp [xI_seq, xI_region, xI_ret, regA, regOps, runOps, opStep, wantedA, opA, evo, evos, calleeA, lk, nif_eq, putE, paramsE, valS, val2, keepE, restrict, finA, resA, binA, binInt, ofConst, ofConst1, loadA, TK.isAgg, asVar, unA, builtinA, lenOpA, lenA, ileb_cast, ileb_eq, ieqb_dec, indexAddrA, inB_dec, evPairs, storeA, AV.cellsOf, pairsOf, xI_nil, binBool, gcE, evOpt, xI_block, xI_loopH, xI_condM, xI_exitM, xI_skip, xI_blk, exitA, ty2, ty33, ty41, eK104_0_0]
  | succ m ih =>
    intro i σ b hi hpb hp hr
    have hlt := hr.lt
    have hmk := mk_lt hA ho i
    obtain ⟨σ1, ha, hr1, hn1, hu1⟩ := nints_append_row (x := mk A o i) ty33 ty2 hr (n := i) (mks_length _ _ _).symm (by omega)
    rw [← mks_succ] at hr1
    have hp1 : σ1.get p = some x := (hu1 p (by omega) (by omega)).trans hp
    have hcr : cellsAt σ1 (.ptr p 1) 1 = some [.lst A.length (ints (nints A))] := by simp [cellsAt, hp1, hx, lin, getCells, takeN, dropN, nints_length]
    have hcm : callI TT 137 [.int .i64 (mk A o i : Nat), .lst A.length (ints (nints A))] σ1 = some (.int .i64 (mk A o (i + 1) : Nat), σ1) := v137 A hA (by omega) _ hmk σ1 _ rfl
    obtain ⟨σ', b', h1, h2⟩ := ih (i + 1) σ1 (σ.n + 1) (by omega) (by omega) hp1 hr1
    refine ⟨σ', b', ?_, h2⟩
    have hlt1 : ¬ c ≤ i := by omega
    have hlt2 : i < c := by omega
    have hw := wrapS (n := i) (by omega)
    generalize mk A o i = z at *
    generalize mk A o (i + 1) = z' at *
    rw [fi104] at h1 ⊢
    rw [xl104_0]
    simp only [B104_0, b104, Try.f104, Option.getD, fstC, sndC, bodyC, thnC, elsC]
    simp [xI_seq, xI_region, xI_ret, regA, regOps, runOps, opStep, wantedA, opA, evo, evos, calleeA, lk, nif_eq, putE, paramsE, valS, val2, keepE, restrict, finA, resA, binA, binInt, ofConst, ofConst1, loadA, TK.isAgg, asVar, unA, builtinA, lenOpA, lenA, ileb_cast, ileb_eq, ieqb_dec, indexAddrA, inB_dec, evPairs, storeA, AV.cellsOf, pairsOf, xI_nil, binBool, gcE, evOpt, xI_block, xI_loopH, xI_condM, xI_exitM, xI_skip, xI_blk, exitA, ty2, ty33, ty41, eK104_0_0, fieldAddrA, allOne, AV.one, n_push, ty2, ty33, ty38, ty41, hlt1, hlt2, hw, hcr, hcm, bs1, ha]
    simpa using h1
theorem r104 (A : List Nat) (o c : Nat) (h16 : A.length ≤ 16) (hA : ∀ r ∈ A, r < 2 ^ 62) (ho : o < 2 ^ 62) (hc : c ≤ 100000) (p : Nat) (x : Blk) (hx : x.cells = lin A.length (nints A) o) (σ : St) (hp : σ.get p = some x) (hpn : p < σ.n) :
    ∃ σ' b', callI TT 104 [.ptr p 0, .int .i64 c] σ = some (.sl b' 0 c c, σ') ∧ Row σ' b' (nints (mks A o c)) := by
  obtain ⟨σ', b', h1, h2⟩ := l104 A o c h16 hA ho hc p x hx c 0 (σ.push ⟨ints [], 1, false⟩) σ.n (by omega) hpn (by rw [get_push_lt hpn]; exact hp) Row.push
  refine ⟨σ', b', ?_, h2⟩
  have hco : cellsAt σ (.ptr p 2) 1 = some [.int .i64 o] := by simp [cellsAt, hp, hx, lin, getCells, takeN, dropN]
  have hco1 : cellsAt (σ.push ⟨ints [], 1, false⟩) (.ptr p 2) 1 = some [.int .i64 o] := by simp [cellsAt, get_push_lt hpn, hp, hx, lin, getCells, takeN, dropN]
  simp only [show mk A o 0 = o from rfl, Int.natCast_zero, show ((0 : Nat) : Int) = 0 from rfl] at h1
  rw [cI_0 fn104 rfl md104, ← h1, fi104]
  simp [xI_seq, xI_region, xI_ret, regA, regOps, runOps, opStep, wantedA, opA, evo, evos, calleeA, lk, nif_eq, putE, paramsE, valS, val2, keepE, restrict, finA, resA, binA, binInt, ofConst, ofConst1, loadA, TK.isAgg, asVar, unA, builtinA, lenOpA, lenA, ileb_cast, ileb_eq, ieqb_dec, indexAddrA, inB_dec, evPairs, storeA, AV.cellsOf, pairsOf, xI_nil, binBool, gcE, evOpt, xI_block, xI_loopH, xI_condM, xI_exitM, xI_skip, xI_blk, exitA, ty2, ty33, ty41, eK104_0_0, fieldAddrA, allOne, AV.one, ty2, ty33, ty38, ty41, bn0, hco1]
  rfl

noncomputable def b103 : Code := Try.f103.body.getD .skip
noncomputable def B103_0 : Code := (bodyC (bodyC (sndC (fstC (sndC (sndC (sndC b103)))))))
noncomputable def K103_0 : List It := .lp B103_0 :: .blk 0 :: .code (sndC (sndC (sndC (sndC b103)))) :: []
theorem xl103_0 {fi : FI} {env : Env} {σ : St} : exI TT fi K103_0 env σ = exI TT fi (.code B103_0 :: K103_0) env σ := by unfold K103_0; exact xI_lp
noncomputable def R103_0_0 : List It := .code (sndC (sndC (sndC (sndC b103)))) :: []
theorem eK103_0_0 : exitA 0 K103_0 = some R103_0_0 := rfl
noncomputable def B103_1 : Code := (bodyC (bodyC (sndC (sndC (sndC (sndC (bodyC (fstC (sndC (bodyC (bodyC (sndC (fstC (sndC (sndC (sndC b103))))))))))))))))
noncomputable def K103_1 : List It := .lp B103_1 :: .blk 2 :: .blk 1 :: .code (sndC (sndC (bodyC (bodyC (sndC (fstC (sndC (sndC (sndC b103))))))))) :: K103_0
theorem xl103_1 {fi : FI} {env : Env} {σ : St} : exI TT fi K103_1 env σ = exI TT fi (.code B103_1 :: K103_1) env σ := by unfold K103_1; exact xI_lp
noncomputable def R103_1_2 : List It := .blk 1 :: .code (sndC (sndC (bodyC (bodyC (sndC (fstC (sndC (sndC (sndC b103))))))))) :: K103_0
theorem eK103_1_2 : exitA 2 K103_1 = some R103_1_2 := rfl
noncomputable def R103_1_1 : List It := .code (sndC (sndC (bodyC (bodyC (sndC (fstC (sndC (sndC (sndC b103))))))))) :: K103_0
theorem eK103_1_1 : exitA 1 K103_1 = some R103_1_1 := rfl
theorem eK103_1_0 : exitA 0 K103_1 = some R103_0_0 := rfl
theorem l103b (w : Nat) (hw : w ≤ 16) (e l n b rank : Nat) (he : e < 2 ^ 62) (done : List Nat) (hl : l ≤ 62) (hn : n ≤ 100000) : ∀ (suf mid : List Nat) (σ : St), done.length + 1 + mid.length + suf.length = n → (∀ x ∈ suf, x < 2 ^ 62) → Row σ b (nints (done ++ e :: (mid ++ suf))) →
    ∃ σ', exI TT (FI.of Try.f103 (TT.an 103)) K103_1 [(3, .int .i64 rank), (4, .sl b 0 n n), (5, .int .i64 done.length), (6, .int .i64 (pw l : Nat)), (7, .int .i64 (done.length + 1 + mid.length : Nat))] σ =
      exI TT (FI.of Try.f103 (TT.an 103)) R103_1_2 [(3, .int .i64 rank), (4, .sl b 0 n n), (5, .int .i64 done.length), (6, .int .i64 (pw l : Nat)), (7, .int .i64 n), (38, .bool false)] σ' ∧ Row σ' b (nints (done ++ e :: (mid ++ suf.map fun x => if x.testBit l = true then xorN x e else x))) := by
  intro suf
  induction suf with
  | nil =>
    intro mid σ hs hx hr
    have hll : n = done.length + 1 + mid.length := by simpa using hs.symm
    subst hll
    refine ⟨σ, ?_, by simpa using hr⟩
    rw [fi103]
    rw [xl103_1]
    simp only [B103_1, b103, Try.f103, Option.getD, fstC, sndC, bodyC, thnC, elsC]
    simp [xI_seq, xI_region, xI_ret, regA, regOps, runOps, opStep, wantedA, opA, evo, evos, calleeA, lk, nif_eq, putE, paramsE, valS, val2, keepE, restrict, finA, resA, binA, binInt, ofConst, ofConst1, loadA, TK.isAgg, asVar, unA, builtinA, lenOpA, lenA, ileb_cast, ileb_eq, ieqb_dec, indexAddrA, inB_dec, evPairs, storeA, AV.cellsOf, pairsOf, xI_nil, binBool, gcE, evOpt, xI_block, xI_loopH, xI_condM, xI_exitM, xI_skip, xI_blk, exitA, ty2, ty3, ty33, eK103_0_0, eK103_1_2, eK103_1_1, eK103_1_0]
  | cons x suf ih =>
    intro mid σ hs hx hr
    have hll : n = done.length + 1 + mid.length + (suf.length + 1) := by simpa using hs.symm
    have hx1 := hx x (by simp)
    obtain ⟨k, hk⟩ : ∃ k, k = done.length + 1 + mid.length := ⟨_, rfl⟩
    have hg : (nints (done ++ e :: (mid ++ x :: suf)))[k]? = some (x : Int) := nints_get (by
      rw [List.getElem?_append_right (by omega), show k - done.length = (mid.length) + 1 by omega, List.getElem?_cons_succ, List.getElem?_append_right (by omega)]; simp)
    have hg2 : (nints (done ++ e :: (mid ++ x :: suf)))[done.length]? = some (e : Int) := nints_get (by rw [List.getElem?_append_right (by omega)]; simp)
    have hrd := hr.read hg
    have hrd2 := hr.read hg2
    have hlt : ¬ n ≤ k := by omega
    have hlt2 : k < n := by omega
    have hlt3 : done.length < n := by omega
    have hw1 := wrapS (n := k) (by omega)
    have hpl : pw l ≤ 2 ^ 62 := Nat.pow_le_pow_right (by decide) hl
    have s1 := n_and (a := x) (b := pw l) (lt_62 hx1) (by have : (2 : Nat) ^ 62 ≤ 9223372036854775807 := by decide
                                                          omega)
    have s2 := n_xor (a := x) (b := e) (lt_62 hx1) (lt_62 he)
    by_cases hb : x.testBit l = true
    · have hm := and_pw.2 hb
      have hm' : (0 : Int) < ((andN x (pw l) : Nat) : Int) := by omega
      have hm0 : ¬ andN x (pw l) = 0 := by omega
      obtain ⟨σ1, hst, hr1, hn1, hu1⟩ := store_row (i := k) (x := (xorN x e : Nat)) hr (by rw [nints_length]; simp; omega)
      rw [nints_set, show (done ++ e :: (mid ++ x :: suf)).set k (xorN x e) = done ++ e :: ((mid ++ [xorN x e]) ++ suf) by
        rw [List.set_append_right _ _ (by omega), show k - done.length = mid.length + 1 by omega, List.set_cons_succ, List.set_append_right _ _ (by omega)]; simp] at hr1
      obtain ⟨σ', h1, h2⟩ := ih (mid ++ [xorN x e]) σ1 (by simp; omega) (fun y hy => hx y (by simp [hy])) hr1
      refine ⟨σ', ?_, by simpa [hb] using h2⟩
      rw [show done.length + 1 + (mid ++ [xorN x e]).length = k + 1 by simp; omega] at h1
      rw [← hk]
      simp only [Int.natCast_add, show ((1 : Nat) : Int) = 1 from rfl] at h1
      rw [fi103] at h1 ⊢
      rw [xl103_1]
      simp only [B103_1, b103, Try.f103, Option.getD, fstC, sndC, bodyC, thnC, elsC]
      simp [xI_seq, xI_region, xI_ret, regA, regOps, runOps, opStep, wantedA, opA, evo, evos, calleeA, lk, nif_eq, putE, paramsE, valS, val2, keepE, restrict, finA, resA, binA, binInt, ofConst, ofConst1, loadA, TK.isAgg, asVar, unA, builtinA, lenOpA, lenA, ileb_cast, ileb_eq, ieqb_dec, indexAddrA, inB_dec, evPairs, storeA, AV.cellsOf, pairsOf, xI_nil, binBool, gcE, evOpt, xI_block, xI_loopH, xI_condM, xI_exitM, xI_skip, xI_blk, exitA, ty2, ty3, ty33, eK103_0_0, eK103_1_2, eK103_1_1, eK103_1_0, hlt, hlt2, hlt3, hw1, hrd, hrd2, s1, s2, hm, hm', hm0, hst]
      simpa using h1
    · have hm : ¬ 0 < andN x (pw l) := fun h => hb (and_pw.1 h)
      have hm' : ¬ (0 : Int) < ((andN x (pw l) : Nat) : Int) := by omega
      have hm0 : andN x (pw l) = 0 := by omega
      obtain ⟨σ', h1, h2⟩ := ih (mid ++ [x]) σ (by simp; omega) (fun y hy => hx y (by simp [hy])) (by simpa using hr)
      refine ⟨σ', ?_, by simpa [hb] using h2⟩
      rw [show done.length + 1 + (mid ++ [x]).length = k + 1 by simp; omega] at h1
      rw [← hk]
      simp only [Int.natCast_add, show ((1 : Nat) : Int) = 1 from rfl] at h1
      rw [fi103] at h1 ⊢
      rw [xl103_1]
      simp only [B103_1, b103, Try.f103, Option.getD, fstC, sndC, bodyC, thnC, elsC]
      simp [xI_seq, xI_region, xI_ret, regA, regOps, runOps, opStep, wantedA, opA, evo, evos, calleeA, lk, nif_eq, putE, paramsE, valS, val2, keepE, restrict, finA, resA, binA, binInt, ofConst, ofConst1, loadA, TK.isAgg, asVar, unA, builtinA, lenOpA, lenA, ileb_cast, ileb_eq, ieqb_dec, indexAddrA, inB_dec, evPairs, storeA, AV.cellsOf, pairsOf, xI_nil, binBool, gcE, evOpt, xI_block, xI_loopH, xI_condM, xI_exitM, xI_skip, xI_blk, exitA, ty2, ty3, ty33, eK103_0_0, eK103_1_2, eK103_1_1, eK103_1_0, hlt, hlt2, hlt3, hw1, hrd, hrd2, s1, s2, hm, hm', hm0]
      simpa using h1
theorem l103 (w : Nat) (hw : w ≤ 16) (n b : Nat) (hn : n ≤ 100000) : ∀ (k : Nat) (cur done : List Nat) (rank : Nat) (σ : St), cur.length ≤ k → done.length + cur.length = n → rank ≤ done.length → (∀ x ∈ cur, x < 2 ^ w) → Row σ b (nints (done ++ cur)) →
    ∃ σ', exI TT (FI.of Try.f103 (TT.an 103)) K103_0 [(3, .int .i64 rank), (4, .sl b 0 n n), (5, .int .i64 done.length)] σ = some (.int .i64 (rank + (pivots w k cur).length : Nat), σ') := by
  intro k
  induction k with
  | zero =>
    intro cur done rank σ hk hl hrk hx hr
    have hc : cur = [] := by simpa using hk
    subst hc
    have hll : n = done.length := by simpa using hl.symm
    subst hll
    refine ⟨σ, ?_⟩
    simp only [pivots, List.length_nil, Nat.add_zero]
    rw [fi103]
    rw [xl103_0]
    simp only [B103_0, b103, Try.f103, Option.getD, fstC, sndC, bodyC, thnC, elsC]
    simp [xI_seq, xI_region, xI_ret, regA, regOps, runOps, opStep, wantedA, opA, evo, evos, calleeA, lk, nif_eq, putE, paramsE, valS, val2, keepE, restrict, finA, resA, binA, binInt, ofConst, ofConst1, loadA, TK.isAgg, asVar, unA, builtinA, lenOpA, lenA, ileb_cast, ileb_eq, ieqb_dec, indexAddrA, inB_dec, evPairs, storeA, AV.cellsOf, pairsOf, xI_nil, binBool, gcE, evOpt, xI_block, xI_loopH, xI_condM, xI_exitM, xI_skip, xI_blk, exitA, ty2, ty3, ty33, eK103_0_0, eK103_1_2, eK103_1_1, eK103_1_0]
    simp only [R103_0_0, b103, Try.f103, Option.getD, fstC, sndC, bodyC, thnC, elsC]
    simp [xI_seq, xI_region, xI_ret, regA, regOps, runOps, opStep, wantedA, opA, evo, evos, calleeA, lk, nif_eq, putE, paramsE, valS, val2, keepE, restrict, finA, resA, binA, binInt, ofConst, ofConst1, loadA, TK.isAgg, asVar, unA, builtinA, lenOpA, lenA, ileb_cast, ileb_eq, ieqb_dec, indexAddrA, inB_dec, evPairs, storeA, AV.cellsOf, pairsOf, xI_nil, binBool, gcE, evOpt, xI_block, xI_loopH, xI_condM, xI_exitM, xI_skip, xI_blk, exitA, ty2, ty3, ty33, eK103_0_0, eK103_1_2, eK103_1_1, eK103_1_0]
  | succ k ih =>
    intro cur done rank σ hk hl hrk hx hr
    cases cur with
    | nil =>
      have hll : n = done.length := by simpa using hl.symm
      subst hll
      refine ⟨σ, ?_⟩
      simp only [pivots, List.length_nil, Nat.add_zero]
      rw [fi103]
      rw [xl103_0]
      simp only [B103_0, b103, Try.f103, Option.getD, fstC, sndC, bodyC, thnC, elsC]
      simp [xI_seq, xI_region, xI_ret, regA, regOps, runOps, opStep, wantedA, opA, evo, evos, calleeA, lk, nif_eq, putE, paramsE, valS, val2, keepE, restrict, finA, resA, binA, binInt, ofConst, ofConst1, loadA, TK.isAgg, asVar, unA, builtinA, lenOpA, lenA, ileb_cast, ileb_eq, ieqb_dec, indexAddrA, inB_dec, evPairs, storeA, AV.cellsOf, pairsOf, xI_nil, binBool, gcE, evOpt, xI_block, xI_loopH, xI_condM, xI_exitM, xI_skip, xI_blk, exitA, ty2, ty3, ty33, eK103_0_0, eK103_1_2, eK103_1_1, eK103_1_0]
      simp only [R103_0_0, b103, Try.f103, Option.getD, fstC, sndC, bodyC, thnC, elsC]
      simp [xI_seq, xI_region, xI_ret, regA, regOps, runOps, opStep, wantedA, opA, evo, evos, calleeA, lk, nif_eq, putE, paramsE, valS, val2, keepE, restrict, finA, resA, binA, binInt, ofConst, ofConst1, loadA, TK.isAgg, asVar, unA, builtinA, lenOpA, lenA, ileb_cast, ileb_eq, ieqb_dec, indexAddrA, inB_dec, evPairs, storeA, AV.cellsOf, pairsOf, xI_nil, binBool, gcE, evOpt, xI_block, xI_loopH, xI_condM, xI_exitM, xI_skip, xI_blk, exitA, ty2, ty3, ty33, eK103_0_0, eK103_1_2, eK103_1_1, eK103_1_0]
    | cons e es =>
      have hll : n = done.length + (es.length + 1) := by simpa using hl.symm
      have hex := hx e (by simp)
      have hw16 : 2 ^ w ≤ 65536 := pw_16 hw
      have he62 : e < 2 ^ 62 := Nat.lt_of_lt_of_le hex (Nat.pow_le_pow_right (by decide) (by omega))
      have hg2 : (nints (done ++ e :: es))[done.length]? = some (e : Int) := nints_get (by rw [List.getElem?_append_right (by omega)]; simp)
      have hrd := hr.read hg2
      have hlt : ¬ n ≤ done.length := by omega
      have hlt2 : done.length < n := by omega
      have hw1 := wrapS (n := done.length) (by omega)
      rw [pivots_cons]
      by_cases h0 : e = 0
      · subst h0
        obtain ⟨σ', h1⟩ := ih es (done ++ [0]) rank σ (by simpa using hk) (by simp; omega) (by simp; omega) (fun x h => hx x (by simp [h])) (by simpa using hr)
        refine ⟨σ', ?_⟩
        rw [if_pos rfl]
        simp only [show (done ++ [0]).length = done.length + 1 by simp, Int.natCast_add, show ((1 : Nat) : Int) = 1 from rfl] at h1
        simp only [show ((0 : Nat) : Int) = 0 from rfl] at hrd
        generalize (pivots w k es).length = z at *
        simp only [Int.natCast_add]
        rw [fi103] at h1 ⊢
        rw [xl103_0]
        simp only [B103_0, b103, Try.f103, Option.getD, fstC, sndC, bodyC, thnC, elsC]
        simp [xI_seq, xI_region, xI_ret, regA, regOps, runOps, opStep, wantedA, opA, evo, evos, calleeA, lk, nif_eq, putE, paramsE, valS, val2, keepE, restrict, finA, resA, binA, binInt, ofConst, ofConst1, loadA, TK.isAgg, asVar, unA, builtinA, lenOpA, lenA, ileb_cast, ileb_eq, ieqb_dec, indexAddrA, inB_dec, evPairs, storeA, AV.cellsOf, pairsOf, xI_nil, binBool, gcE, evOpt, xI_block, xI_loopH, xI_condM, xI_exitM, xI_skip, xI_blk, exitA, ty2, ty3, ty33, eK103_0_0, eK103_1_2, eK103_1_1, eK103_1_0, hlt, hlt2, hw1, hrd]
        simpa using h1
      · have h0' : ¬ (e : Int) = 0 := by omega
        have hlw : lead w e < w := lead_lt hex h0
        have hna := neg_and hw (by omega) he62 hlw
        have hneg : wrapA .i64 (-(e : Int)) = -(e : Int) := wrapA_id (by omega) (by omega)
        have hrw := wrapS (n := rank) (by omega)
        obtain ⟨σ1, h1, hr1⟩ := l103b w hw e (lead w e) n b (rank + 1) he62 done (by omega) hn es [] σ (by simp; omega) (fun x h => Nat.lt_of_lt_of_le (hx x (by simp [h])) (Nat.pow_le_pow_right (by decide) (by omega))) (by simpa using hr)
        rw [List.nil_append] at hr1
        have hcl : (es.map fun x => if x.testBit (lead w e) = true then xorN x e else x) = es.map (cle w e) := rfl
        rw [hcl] at hr1
        obtain ⟨σ', h2⟩ := ih (es.map (cle w e)) (done ++ [e]) (rank + 1) σ1 (by simpa using hk) (by simp; omega) (by simp; omega) (fun x h => by
          obtain ⟨y, hy, rfl⟩ := List.mem_map.1 h
          unfold cle; split
          · exact Nat.xor_lt_two_pow (hx y (by simp [hy])) hex
          · exact hx y (by simp [hy])) (by simpa using hr1)
        refine ⟨σ', ?_⟩
        rw [if_neg h0, List.length_cons, show rank + ((pivots w k (es.map (cle w e))).length + 1) = rank + 1 + (pivots w k (es.map (cle w e))).length by omega]
        simp only [show (done ++ [e]).length = done.length + 1 by simp] at h2
        simp only [List.length_nil, Nat.add_zero] at h1
        generalize rank + 1 + (pivots w k (es.map (cle w e))).length = z at *
        simp only [Int.natCast_add, show ((1 : Nat) : Int) = 1 from rfl] at h1 h2
        rw [fi103] at h1 h2 ⊢
        rw [xl103_0]
        simp only [B103_0, b103, Try.f103, Option.getD, fstC, sndC, bodyC, thnC, elsC]
        simp [xI_seq, xI_region, xI_ret, regA, regOps, runOps, opStep, wantedA, opA, evo, evos, calleeA, lk, nif_eq, putE, paramsE, valS, val2, keepE, restrict, finA, resA, binA, binInt, ofConst, ofConst1, loadA, TK.isAgg, asVar, unA, builtinA, lenOpA, lenA, ileb_cast, ileb_eq, ieqb_dec, indexAddrA, inB_dec, evPairs, storeA, AV.cellsOf, pairsOf, xI_nil, binBool, gcE, evOpt, xI_block, xI_loopH, xI_condM, xI_exitM, xI_skip, xI_blk, exitA, ty2, ty3, ty33, eK103_0_0, eK103_1_2, eK103_1_1, eK103_1_0, hlt, hlt2, hw1, hrd, h0, h0', hna, hneg, hrw]
        refine h1.trans ?_
        simp only [R103_1_2, b103, Try.f103, Option.getD, fstC, sndC, bodyC, thnC, elsC]
        simp [xI_seq, xI_region, xI_ret, regA, regOps, runOps, opStep, wantedA, opA, evo, evos, calleeA, lk, nif_eq, putE, paramsE, valS, val2, keepE, restrict, finA, resA, binA, binInt, ofConst, ofConst1, loadA, TK.isAgg, asVar, unA, builtinA, lenOpA, lenA, ileb_cast, ileb_eq, ieqb_dec, indexAddrA, inB_dec, evPairs, storeA, AV.cellsOf, pairsOf, xI_nil, binBool, gcE, evOpt, xI_block, xI_loopH, xI_condM, xI_exitM, xI_skip, xI_blk, exitA, ty2, ty3, ty33, eK103_0_0, eK103_1_2, eK103_1_1, eK103_1_0, hw1]
        exact h2
theorem v103 (w : Nat) (hw : w ≤ 16) (es : List Nat) (hl : es.length ≤ 100000) (hx : ∀ x ∈ es, x < 2 ^ w) : FnV TT 103 [.lst es.length (ints (nints es))] (.int .i64 (pivots w es.length es).length) := by
  obtain ⟨σ1, c1, r1, _, _⟩ := own_row ⟨[], 0⟩ (.lst es.length (ints (nints es))) es (by omega) (.inl (by rw [nints_length]))
  obtain ⟨σ', h1⟩ := l103 w hw es.length 0 hl es.length es [] 0 σ1 (Nat.le_refl _) (by simp) (Nat.le_refl _) hx r1
  refine FnV.mk fn103 rfl md103 ⟨σ', ?_⟩ (fun _ => rfl) rfl
  simp only [List.length_nil, Nat.zero_add, Int.natCast_zero, show ((0 : Nat) : Int) = 0 from rfl] at h1
  rw [← h1, fi103]
  simp [xI_seq, xI_region, xI_ret, regA, regOps, runOps, opStep, wantedA, opA, evo, evos, calleeA, lk, nif_eq, putE, paramsE, valS, val2, keepE, restrict, finA, resA, binA, binInt, ofConst, ofConst1, loadA, TK.isAgg, asVar, unA, builtinA, lenOpA, lenA, ileb_cast, ileb_eq, ieqb_dec, indexAddrA, inB_dec, evPairs, storeA, AV.cellsOf, pairsOf, xI_nil, binBool, gcE, evOpt, xI_block, xI_loopH, xI_condM, xI_exitM, xI_skip, xI_blk, exitA, ty2, ty3, ty33, eK103_0_0, eK103_1_2, eK103_1_1, eK103_1_0, c1]
  rfl

theorem eqn_zero (w m : Nat) : eqn w m 0 = m := by show m ||| 0 * 2 ^ w = m; simp
theorem c106 (w : Nat) (hw : w ≤ 16) (lo : Nat) (rows rows' : List Nat) (v : AV) (σ : St) (q : Nat) (hE : ES σ 1 lo w rows v) (hf : Fine w rows) (hl : rows.length ≤ 100000) (at_ : Int) (mask : Nat) (hm : mask < 2 ^ w) (hq : cellsAt σ (.ptr q 0) 1 = some [.ptr 1 0]) (ha : add w rows mask = some rows') :
    ∃ σ' v', callI TT 106 [.int .i64 at_, .int .i64 mask, .ptr q 0] σ = some (.tup [], σ') ∧ ES σ' 1 lo w rows' v' ∧ σ.n ≤ σ'.n ∧ ∀ c, c < lo → c ≠ 1 → σ'.get c = σ.get c := by
  obtain ⟨σ', v', h1, h2, h3, h4⟩ := c107y w hw 1 lo rows rows' v σ hE hf hl mask 0 hm (by decide) (by rw [eqn_zero]; exact ha)
  refine ⟨σ', v', ?_, h2, h3, h4⟩
  simp only [show ((0 : Nat) : Int) = 0 from rfl] at h1
  rw [cI_0 fn106 rfl md106, fi106]
  simp [xI_seq, xI_region, xI_ret, regA, regOps, runOps, opStep, wantedA, opA, evo, evos, calleeA, lk, nif_eq, putE, paramsE, valS, val2, keepE, restrict, finA, resA, binA, binInt, ofConst, ofConst1, loadA, TK.isAgg, asVar, unA, builtinA, lenOpA, lenA, ileb_cast, ileb_eq, ieqb_dec, indexAddrA, inB_dec, evPairs, storeA, AV.cellsOf, pairsOf, xI_nil, binBool, gcE, evOpt, xI_block, xI_loopH, xI_condM, xI_exitM, xI_skip, xI_blk, exitA, ty125, hq, h1, ty125]

noncomputable def b105 : Code := Try.f105.body.getD .skip
noncomputable def B105_0 : Code := (bodyC (bodyC (sndC (sndC (sndC b105)))))
noncomputable def K105_0 : List It := .lp B105_0 :: .blk 0 :: []
theorem xl105_0 {fi : FI} {env : Env} {σ : St} : exI TT fi K105_0 env σ = exI TT fi (.code B105_0 :: K105_0) env σ := by unfold K105_0; exact xI_lp
noncomputable def R105_0_0 : List It := []
theorem eK105_0_0 : exitA 0 K105_0 = some R105_0_0 := rfl
/-- A loop over the masks of outputs: what a step keeps, the loop keeps. -/
theorem l105 (A : List Nat) (o c : Nat) (h16 : A.length ≤ 16) (hA : ∀ r ∈ A, r < 2 ^ 62) (ho : o < 2 ^ 62) (hc : c ≤ 100000) (fn : FuncId) (caps : List AV) (P : Nat → St → Prop) (p : Nat) (hp : ∀ i σ, P i σ → cellsAt σ (.ptr p 1) 1 = some [.lst A.length (ints (nints A))])
    (hs : ∀ (i : Nat) (σ : St), i < c → P i σ → ∃ r σ', callI TT fn (.int .i64 i :: .int .i64 (mk A o i : Nat) :: caps) σ = some (r, σ') ∧ P (i + 1) σ') : ∀ (m i : Nat) (σ : St), i + m = c → P i σ →
    ∃ σ', exI TT (FI.of Try.f105 (TT.an 105)) K105_0 [(2, .fn fn [] caps), (3, .ptr p 0), (6, .int .i64 (mk A o i : Nat)), (10, .int .i64 c), (11, .int .i64 i)] σ = some (.tup [], σ') ∧ P c σ' := by
  intro m
  induction m with
  | zero =>
    intro i σ hi hP
    obtain rfl : i = c := by omega
    refine ⟨σ, ?_, hP⟩
    rw [fi105]
    rw [xl105_0]
    simp only [B105_0, b105, Try.f105, Option.getD, fstC, sndC, bodyC, thnC, elsC]
    simp [xI_seq, xI_region, xI_ret, regA, regOps, runOps, opStep, wantedA, opA, evo, evos, calleeA, lk, nif_eq, putE, paramsE, valS, val2, keepE, restrict, finA, resA, binA, binInt, ofConst, ofConst1, loadA, TK.isAgg, asVar, unA, builtinA, lenOpA, lenA, ileb_cast, ileb_eq, ieqb_dec, indexAddrA, inB_dec, evPairs, storeA, AV.cellsOf, pairsOf, xI_nil, binBool, gcE, evOpt, xI_block, xI_loopH, xI_condM, xI_exitM, xI_skip, xI_blk, exitA, ty2, ty33, ty41, eK105_0_0]
    simp only [R105_0_0, b105, Try.f105, Option.getD, fstC, sndC, bodyC, thnC, elsC]
    simp [xI_seq, xI_region, xI_ret, regA, regOps, runOps, opStep, wantedA, opA, evo, evos, calleeA, lk, nif_eq, putE, paramsE, valS, val2, keepE, restrict, finA, resA, binA, binInt, ofConst, ofConst1, loadA, TK.isAgg, asVar, unA, builtinA, lenOpA, lenA, ileb_cast, ileb_eq, ieqb_dec, indexAddrA, inB_dec, evPairs, storeA, AV.cellsOf, pairsOf, xI_nil, binBool, gcE, evOpt, xI_block, xI_loopH, xI_condM, xI_exitM, xI_skip, xI_blk, exitA, ty2, ty33, ty41, eK105_0_0]
  | succ m ih =>
    intro i σ hi hP
    obtain ⟨r, σ1, c1, hP1⟩ := hs i σ (by omega) hP
    have hmk := mk_lt hA ho i
    have hcr := hp _ _ hP1
    have hcm : callI TT 134 [.lst A.length (ints (nints A)), .int .i64 (mk A o i : Nat)] σ1 = some (.int .i64 (mk A o (i + 1) : Nat), σ1) := v134 A hA (by omega) _ hmk σ1 _ rfl
    obtain ⟨σ', h1, h2⟩ := ih (i + 1) σ1 (by omega) hP1
    refine ⟨σ', ?_, h2⟩
    have hlt1 : ¬ c ≤ i := by omega
    have hlt2 : i < c := by omega
    have hw := wrapS (n := i) (by omega)
    generalize mk A o i = z at *
    generalize mk A o (i + 1) = z' at *
    rw [fi105] at h1 ⊢
    rw [xl105_0]
    simp only [B105_0, b105, Try.f105, Option.getD, fstC, sndC, bodyC, thnC, elsC]
    simp [xI_seq, xI_region, xI_ret, regA, regOps, runOps, opStep, wantedA, opA, evo, evos, calleeA, lk, nif_eq, putE, paramsE, valS, val2, keepE, restrict, finA, resA, binA, binInt, ofConst, ofConst1, loadA, TK.isAgg, asVar, unA, builtinA, lenOpA, lenA, ileb_cast, ileb_eq, ieqb_dec, indexAddrA, inB_dec, evPairs, storeA, AV.cellsOf, pairsOf, xI_nil, binBool, gcE, evOpt, xI_block, xI_loopH, xI_condM, xI_exitM, xI_skip, xI_blk, exitA, ty2, ty33, ty41, eK105_0_0, fieldAddrA, allOne, AV.one, n_push, ty2, ty33, ty38, ty41, hlt1, hlt2, hw, hcr, hcm, c1]
    simpa using h1

/-- How many outputs tell states apart. -/
def rkV (w : Int) (R : List Int) (o : Int) : Int := if vlin w R o = true then ((pivots R.length R.length (mks (nats R) o.toNat R.length)).length : Nat) else 0
theorem rkV_no {w : Int} {R : List Int} {o : Int} (h : vlin w R o = false) : rkV w R o = 0 := by simp [rkV, h]
theorem rkV_yes {A : List Nat} {k : Nat} (h : vlin (A.length : Int) (nints A) k = true) : rkV (A.length : Int) (nints A) k = ((pivots A.length A.length (mks A k A.length)).length : Nat) := by simp [rkV, h, nats_nints, nints_length]
theorem vlin_nat2 {w : Int} {R : List Int} {o : Int} (h : vlin w R o = true) : ∃ (A : List Nat) (k : Nat), w = (A.length : Int) ∧ R = nints A ∧ o = (k : Int) ∧ 1 ≤ A.length ∧ A.length ≤ 16 ∧ (∀ r ∈ A, r < 2 ^ A.length) ∧ k < 2 ^ A.length := vlin_nat h
theorem w62 {w x : Nat} (hw : w ≤ 16) (h : x < 2 ^ w) : x < 2 ^ 62 := Nat.lt_of_lt_of_le h (Nat.pow_le_pow_right (by decide) (by omega))

theorem v57 (w : Int) (R : List Int) (o : Int) (hs : R.length < 1000000000000) : FnV TT 57 [.agg (lin w R o)] (.tup [.int .i64 (rkV w R o), .bool (vlin w R o)]) := by
  refine FnV.mk fn57 rfl md57 ?_ (fun _ => rfl) rfl
  obtain ⟨σ, hσ⟩ : ∃ σ, (⟨[], 0⟩ : St).push ⟨lin w R o, 3, false⟩ = σ := ⟨_, rfl⟩
  have hg : σ.get 0 = some ⟨lin w R o, 3, false⟩ := by subst hσ; rfl
  have hn1 : σ.n = 1 := by subst hσ; rfl
  have h := c83 w R o hs σ 0 _ hg rfl
  cases h1 : vlin w R o with
  | false =>
    rw [h1] at h
    rw [rkV_no h1, fi57]
    simp only [lin] at hσ ⊢
    simp [xI_seq, xI_region, xI_ret, regA, regOps, runOps, opStep, wantedA, opA, evo, evos, calleeA, lk, nif_eq, putE, paramsE, valS, val2, keepE, restrict, finA, resA, binA, binInt, ofConst, ofConst1, loadA, TK.isAgg, asVar, unA, builtinA, lenOpA, lenA, ileb_cast, ileb_eq, ieqb_dec, indexAddrA, inB_dec, evPairs, storeA, AV.cellsOf, pairsOf, xI_nil, binBool, gcE, evOpt, xI_block, xI_loopH, xI_condM, xI_exitM, xI_skip, xI_blk, exitA, ty2, ty4, ty41, fieldAddrA, allOne, AV.one, n_push, ty2, ty33, ty38, ty41, hσ, h]
  | true =>
    rw [h1] at h
    obtain ⟨A, k, rfl, rfl, rfl, h2, h3, h4, h5⟩ := vlin_nat2 h1
    obtain ⟨σ1, b1, c1, r1⟩ := r104 A k A.length h3 (fun r hr => w62 h3 (h4 r hr)) (w62 h3 h5) (by omega) 0 _ rfl σ hg (by omega)
    have hml := mks_length A k A.length
    have c2 := v103 A.length h3 (mks A k A.length) (by omega) (mks_lt h4 h5) σ1 [.sl b1 0 (mks A k A.length).length (mks A k A.length).length] (mapO_cons (r1.frz (d := 4) (nints_length _).symm (Nat.le_refl _)) rfl)
    rw [hml] at c2
    have hcw : cellsAt σ (.ptr 0 0) 1 = some [.int .i64 A.length] := by simp [cellsAt, hg, lin, getCells, takeN, dropN]
    rw [rkV_yes h1, fi57]
    simp only [lin, nints_length] at hσ ⊢
    simp [xI_seq, xI_region, xI_ret, regA, regOps, runOps, opStep, wantedA, opA, evo, evos, calleeA, lk, nif_eq, putE, paramsE, valS, val2, keepE, restrict, finA, resA, binA, binInt, ofConst, ofConst1, loadA, TK.isAgg, asVar, unA, builtinA, lenOpA, lenA, ileb_cast, ileb_eq, ieqb_dec, indexAddrA, inB_dec, evPairs, storeA, AV.cellsOf, pairsOf, xI_nil, binBool, gcE, evOpt, xI_block, xI_loopH, xI_condM, xI_exitM, xI_skip, xI_blk, exitA, ty2, ty4, ty41, fieldAddrA, allOne, AV.one, n_push, ty2, ty33, ty38, ty41, hσ, h, hcw, c1, c2]

set_option maxHeartbeats 1000000 in
theorem v58 (w : Int) (R : List Int) (o : Int) (hs : R.length < 3000000) : FnV TT 58 [.agg (lin w R o)] (.tup [.int .i64 (rkV w R o), .bool (vlin w R o)]) := by
  refine FnV.mk fn58 rfl md58 ?_ (fun _ => rfl) rfl
  obtain ⟨σ, hσ⟩ : ∃ σ, (⟨[], 0⟩ : St).push ⟨lin w R o, 3, false⟩ = σ := ⟨_, rfl⟩
  have hg : σ.get 0 = some ⟨lin w R o, 3, false⟩ := by subst hσ; rfl
  have hn1 : σ.n = 1 := by subst hσ; rfl
  have hcp3 : cellsAt σ (.ptr 0 0) 3 = some [.int .i64 w, .lst R.length (ints R), .int .i64 o] := by subst hσ; rfl
  have h : callI TT 33 [.agg [.int .i64 w, .lst R.length (ints R), .int .i64 o]] σ = some (.bool (vlin w R o), σ) := v33 w R o hs σ _ rfl
  cases h1 : vlin w R o with
  | false =>
    rw [h1] at h
    rw [rkV_no h1, fi58]
    simp only [lin] at hσ ⊢
    simp [xI_seq, xI_region, xI_ret, regA, regOps, runOps, opStep, wantedA, opA, evo, evos, calleeA, lk, nif_eq, putE, paramsE, valS, val2, keepE, restrict, finA, resA, binA, binInt, ofConst, ofConst1, loadA, TK.isAgg, asVar, unA, builtinA, lenOpA, lenA, ileb_cast, ileb_eq, ieqb_dec, indexAddrA, inB_dec, evPairs, storeA, AV.cellsOf, pairsOf, xI_nil, binBool, gcE, evOpt, xI_block, xI_loopH, xI_condM, xI_exitM, xI_skip, xI_blk, exitA, ty2, ty4, ty33, ty41, ty125, ty127, fieldAddrA, allOne, AV.one, n_push, ty2, ty33, ty38, ty41, hσ, hcp3, h]
  | true =>
    rw [h1] at h
    obtain ⟨A, k, rfl, rfl, rfl, h2, h3, h4, h5⟩ := vlin_nat2 h1
    have hw16 : 2 ^ A.length ≤ 65536 := pw_16 h3
    simp only [nints_length] at hcp3 h hs
    obtain ⟨rows, hrows⟩ := addAll_zero (w := A.length) (by omega) (mks_lt (n := A.length) h4 h5)
    have hrk := rank_eq (w := A.length) (by omega) (mks_lt (n := A.length) h4 h5) hrows
    rw [mks_length] at hrk
    -- the heap before the loop
    obtain ⟨σ1, hσ1⟩ : ∃ σ1, σ.push ⟨[.int .i64 A.length, .nilS], 2, false⟩ = σ1 := ⟨_, rfl⟩
    have n1 : σ1.n = 2 := by subst hσ1; rw [n_push, hn1]
    obtain ⟨σ2, hσ2⟩ : ∃ σ2, storeCellsA (σ1.push ⟨[.nilP], 1, false⟩) σ1.n 0 [.ptr σ.n 0] = some σ2 := ⟨(σ1.push ⟨[.nilP], 1, false⟩).set σ1.n ⟨[.ptr σ.n 0], 1, false⟩, by simp [storeCellsA, get_push_same, allOne, AV.one, putN, overN]⟩
    have hσ2' : σ2 = (σ1.push ⟨[.nilP], 1, false⟩).set σ1.n ⟨[.ptr σ.n 0], 1, false⟩ := by
      simp [storeCellsA, get_push_same, allOne, AV.one, putN, overN] at hσ2
      exact hσ2.symm
    have n2 : σ2.n = 3 := by rw [hσ2', n_set, n_push, n1]
    have q2 : σ2.get 2 = some ⟨[.ptr 1 0], 1, false⟩ := by rw [hσ2', n1, hn1, ← n1, get_set_eq get_push_same]
    have e2 : σ2.get 1 = some ⟨[.int .i64 A.length, .nilS], 2, false⟩ := by rw [hσ2', get_set_ne (by omega), get_push_lt (by omega)]; subst hσ1; rw [← hn1]; exact get_push_same
    have g2 : σ2.get 0 = some ⟨lin A.length (nints A) k, 3, false⟩ := by rw [hσ2', get_set_ne (by omega), get_push_lt (by omega)]; subst hσ1; rw [get_push_lt (by omega)]; exact hg
    obtain ⟨σ3, hσ3⟩ : ∃ σ3, σ2.push ⟨lin A.length (nints A) k, 3, false⟩ = σ3 := ⟨_, rfl⟩
    have n3 : σ3.n = 4 := by subst hσ3; rw [n_push, n2]
    have keep3 : ∀ c, c < 3 → σ3.get c = σ2.get c := fun c hc => by subst hσ3; exact get_push_lt (by omega)
    have g3 : σ3.get 3 = some ⟨lin A.length (nints A) k, 3, false⟩ := by subst hσ3; rw [← n2]; exact get_push_same
    have hE3 : ES σ3 1 4 A.length [] .nilS := ⟨by omega, by omega, by rw [keep3 1 (by decide)]; exact e2, .inl ⟨rfl, rfl⟩⟩
    -- what the loop keeps
    have hloop := l105 A k A.length h3 (fun r hr => w62 h3 (h4 r hr)) (w62 h3 h5) (by omega) 106 [.ptr 2 0] (fun i τ => ∃ rs v, addAll A.length [] (mks A k i) = some rs ∧ ES τ 1 4 A.length rs v ∧ Red A.length rs ∧ rs.length ≤ i ∧ τ.get 2 = some ⟨[.ptr 1 0], 1, false⟩ ∧ τ.get 3 = some ⟨lin A.length (nints A) k, 3, false⟩) 3
      (fun i τ ⟨rs, v, _, _, _, _, _, g⟩ => by simp [cellsAt, g, lin, getCells, takeN, dropN, nints_length])
      (fun i τ hi ⟨rs, v, a1, a2, a3, a4, a5, a6⟩ => by
        have hmk := mk_lt h4 h5 i
        obtain ⟨rs', hrs⟩ := addAll_zero (w := A.length) (by omega) (mks_lt (n := i + 1) h4 h5)
        have hsplit : ∀ (es rows : List Nat) (e : Nat), addAll A.length rows (es ++ [e]) = (match addAll A.length rows es with | none => none | some r => add A.length r e) := by
          intro es
          induction es with
          | nil => intro rows e; simp only [List.nil_append, addAll]; cases add A.length rows e <;> rfl
          | cons x es ih => intro rows e; simp only [List.cons_append, addAll]; cases add A.length rows x with
            | none => rfl
            | some r => exact ih r e
        have hadd : add A.length rs (mk A k i) = some rs' := by
          rw [mks_succ, hsplit, a1] at hrs; exact hrs
        obtain ⟨τ', v', b1, b2, b3, b4⟩ := c106 A.length h3 4 rs rs' v τ 2 a2 a3.ok (by omega) i (mk A k i) hmk (by simp [cellsAt, a5, getCells, takeN, dropN]) hadd
        refine ⟨_, τ', b1, rs', v', hrs, b2, ?_, ?_, ?_, ?_⟩
        · exact (addAll_some [mk A k i] rs rs' a3 (by simp only [List.mem_singleton, forall_eq]; exact Nat.lt_trans hmk (Nat.pow_lt_pow_right (by decide) (by omega))) (by simp [addAll, hadd])).1
        · rw [add_eq] at hadd
          split at hadd
          · split at hadd
            · cases hadd; omega
            · cases hadd
          · cases hadd; simp; omega
        · rw [b4 2 (by decide) (by decide)]; exact a5
        · rw [b4 3 (by decide) (by decide)]; exact a6)
    obtain ⟨σ', h6, rs, v, a1, a2, a3, a4, a5, a6⟩ := hloop A.length 0 σ3 (by omega) ⟨[], .nilS, rfl, hE3, red_nil _, Nat.le_refl _, by rw [keep3 2 (by decide)]; exact q2, g3⟩
    rw [hrows] at a1
    cases a1
    simp only [show mk A k 0 = k from rfl, Int.natCast_zero, show ((0 : Nat) : Int) = 0 from rfl] at h6
    have hq' : cellsAt σ' (.ptr 2 0) 1 = some [.ptr 1 0] := by simp [cellsAt, a5, getCells, takeN, dropN]
    have hv' := a2.v
    have hL : callI TT 81 [v] σ' = some (.int .i64 rows.length, σ') := by
      obtain ⟨_, _, _, h4⟩ := a2
      rcases h4 with ⟨rfl, rfl⟩ | ⟨b, _, _, rfl, hr⟩
      · exact v81n σ' [.nilS] rfl
      · exact v81 (nints rows) rows.length σ' _ (mapO_cons (hr.frz (d := 4) (nints_length _).symm (Nat.le_refl _)) rfl)
    have hc0 : cellsAt σ (.ptr 0 0) 1 = some [.int .i64 A.length] := by simp [cellsAt, hg, lin, getCells, takeN, dropN]
    have hc2 : cellsAt σ2 (.ptr 0 0) 1 = some [.int .i64 A.length] := by simp [cellsAt, g2, lin, getCells, takeN, dropN]
    have hc23 : cellsAt σ2 (.ptr 0 0) 3 = some [.int .i64 A.length, .lst A.length (ints (nints A)), .int .i64 k] := by simp [cellsAt, g2, lin, getCells, takeN, dropN, nints_length]
    have hc33 : cellsAt σ3 (.ptr 3 2) 1 = some [.int .i64 k] := by simp [cellsAt, g3, lin, getCells, takeN, dropN]
    have hC : callI TT 105 [.agg [.int .i64 A.length, .lst A.length (ints (nints A)), .int .i64 k], .int .i64 A.length, .fn 106 [] [.ptr 2 0]] σ2 = some (.tup [], σ') := by
      rw [cI_0 fn105 rfl md105, ← h6, fi105]
      have hσ3' : σ2.push ⟨[.int .i64 A.length, .lst A.length (ints (nints A)), .int .i64 k], 3, false⟩ = σ3 := by rw [← hσ3]; simp [lin, nints_length]
      simp [xI_seq, xI_region, xI_ret, regA, regOps, runOps, opStep, wantedA, opA, evo, evos, calleeA, lk, nif_eq, putE, paramsE, valS, val2, keepE, restrict, finA, resA, binA, binInt, ofConst, ofConst1, loadA, TK.isAgg, asVar, unA, builtinA, lenOpA, lenA, ileb_cast, ileb_eq, ieqb_dec, indexAddrA, inB_dec, evPairs, storeA, AV.cellsOf, pairsOf, xI_nil, binBool, gcE, evOpt, xI_block, xI_loopH, xI_condM, xI_exitM, xI_skip, xI_blk, exitA, ty2, ty33, ty41, eK105_0_0, fieldAddrA, allOne, AV.one, n_push, ty2, ty33, ty38, ty41, hσ3', n2, hc33]
      rfl
    have hwi : wrapA .i64 ((A.length : Nat) : Int) = ((A.length : Nat) : Int) := n_wrap (by omega)
    rw [rkV_yes h1, ← hrk, fi58]
    simp only [lin, nints_length] at hσ ⊢
    rw [n1, hn1] at hσ2
    simp [xI_seq, xI_region, xI_ret, regA, regOps, runOps, opStep, wantedA, opA, evo, evos, calleeA, lk, nif_eq, putE, paramsE, valS, val2, keepE, restrict, finA, resA, binA, binInt, ofConst, ofConst1, loadA, TK.isAgg, asVar, unA, builtinA, lenOpA, lenA, ileb_cast, ileb_eq, ieqb_dec, indexAddrA, inB_dec, evPairs, storeA, AV.cellsOf, pairsOf, xI_nil, binBool, gcE, evOpt, xI_block, xI_loopH, xI_condM, xI_exitM, xI_skip, xI_blk, exitA, ty2, ty4, ty33, ty41, ty125, ty127, fieldAddrA, allOne, AV.one, n_push, ty2, ty33, ty38, ty41, ty3, ty125, ty127, buildA, sizesOf, fillA, putCells, hσ, hn1, hσ1, n1, hσ2, hcp3, hc0, hc2, hc23, h, hwi, hC, hq', hv', hL]

set_option maxHeartbeats 1000000 in
theorem w14 (w : Int) (l : List Int) (o : Int) (hn0 : l.length ≤ 9223372036854775807) : FnV TT 14 [.agg (lin w l o)] (.bool true) := by
  refine FnV.mk fn14 rfl md14 ?_ (fun _ => rfl) rfl
  rw [fi14]
  have hsz : ∀ σ : St, callI TT 30 [.agg (lin w l o), .int .i64 1048576] σ = some (.int .i64 (if l.length ≤ 1048576 then (1048576 : Int) - l.length else -1), σ) := fun σ => v30 w l o 1048576 hn0 (by decide) σ _ rfl
  by_cases hbig : l.length ≤ 1048576
  · have hl : l.length < 3000000 := by omega
    have hn : l.length < 1000000000000 := by omega
    have hto : ∀ σ : St, callI TT 32 [.agg (lin w l o)] σ = some (.agg (lin w l o), σ) := fun σ => tol32 w l o hn σ _ rfl rfl
    have heq : ∀ σ : St, callI TT 34 [.agg (lin w l o), .agg (lin w l o)] σ = some (.bool true, σ) := fun σ => v34 w l o hn σ _ rfl
    have hS : ∀ σ : St, callI TT 57 [.agg (lin w l o)] σ = some (.tup [.int .i64 (rkV w l o), .bool (vlin w l o)], σ) := fun σ => v57 w l o hn σ _ rfl
    have hI : ∀ σ : St, callI TT 58 [.agg (lin w l o)] σ = some (.tup [.int .i64 (rkV w l o), .bool (vlin w l o)], σ) := fun σ => v58 w l o hl σ _ rfl
    have h1 : ¬ ((1048576 : Int) - l.length < 0) := by omega
    have h2 : ¬ ((1048576 : Int) < l.length) := by omega
    simp only [if_pos hbig] at hsz
    simp only [lin] at hsz hto heq hS hI ⊢
    simp [xI_seq, xI_region, xI_ret, regA, regOps, runOps, opStep, wantedA, opA, evo, evos, calleeA, lk, nif_eq, putE, paramsE, valS, val2, keepE, restrict, finA, resA, binA, binInt, ofConst, ofConst1, loadA, TK.isAgg, asVar, unA, builtinA, lenOpA, lenA, ileb_cast, ileb_eq, ieqb_dec, indexAddrA, inB_dec, evPairs, storeA, AV.cellsOf, pairsOf, xI_nil, binBool, gcE, evOpt, xI_block, xI_loopH, xI_condM, xI_exitM, xI_skip, xI_blk, exitA, ty2, ty3, ty4, ty38, ty41, cellsAt, getCells, takeN, dropN, fieldAddrA, allOne, AV.one, n_push, storeCellsA, putN, overN, ty2, ty33, ty38, ty41, St.push, St.get, St.set, hget, hset, runTr, pairsOk, pairOk, lstAt, lastOf, sameVal, AV.eqv, eqvs, eqvs_ints, regOps, blt_dec, cond_true, cond_false, hsz, hto, heq, hS, hI, h1, h2]
  · simp only [if_neg hbig] at hsz
    simp only [lin] at hsz ⊢
    simp [xI_seq, xI_region, xI_ret, regA, regOps, runOps, opStep, wantedA, opA, evo, evos, calleeA, lk, nif_eq, putE, paramsE, valS, val2, keepE, restrict, finA, resA, binA, binInt, ofConst, ofConst1, loadA, TK.isAgg, asVar, unA, builtinA, lenOpA, lenA, ileb_cast, ileb_eq, ieqb_dec, indexAddrA, inB_dec, evPairs, storeA, AV.cellsOf, pairsOf, xI_nil, binBool, gcE, evOpt, xI_block, xI_loopH, xI_condM, xI_exitM, xI_skip, xI_blk, exitA, ty2, ty3, ty4, ty38, ty41, cellsAt, getCells, takeN, dropN, fieldAddrA, allOne, AV.one, n_push, storeCellsA, putN, overN, ty2, ty33, ty38, ty41, St.push, St.get, St.set, hget, hset, runTr, pairsOk, pairOk, lstAt, lastOf, sameVal, AV.eqv, eqvs, eqvs_ints, regOps, blt_dec, cond_true, cond_false, hsz]

end Go.Proofs.Ytonnbgjbohbibaa
