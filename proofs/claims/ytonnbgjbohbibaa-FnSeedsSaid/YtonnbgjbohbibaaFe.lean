/- Law: seeds behind what is seen. Nothing is claimed here; no condition. -/
import Derived.Test.YtonnbgjbohbibaaFd
import Derived.Test.YtonnbgjbohbibaaEl
namespace Go.Proofs.Ytonnbgjbohbibaa
open Go Go.Abs
set_option linter.unusedSimpArgs false
set_option linter.unusedVariables false
open Go.Wd
/-- What is seen of the words from one on. -/
def run (a c : Nat) : Nat → Nat → List Nat
  | 0, _ => []
  | n + 1, x => divN x 256 :: run a c n (modN (addN (mulN a x) c) 65536)
theorem run_length (a c : Nat) : ∀ n x, (run a c n x).length = n
  | 0, _ => rfl
  | n + 1, x => by simp [run, run_length a c n]
theorem run_fit (a c : Nat) : ∀ n x, fit a c (run a c n x) x = true
  | 0, _ => rfl
  | n + 1, x => by simp [run, fit, run_fit a c n]
theorem next_le (a c x : Nat) : modN (addN (mulN a x) c) 65536 ≤ 65535 := by
  have : modN (addN (mulN a x) c) 65536 < 65536 := Nat.mod_lt _ (by decide)
  omega
theorem div_le {x : Nat} (h : x ≤ 65535) : divN x 256 ≤ 255 := by show x / 256 ≤ 255; omega
theorem run_le (a c : Nat) : ∀ n x, x ≤ 65535 → ∀ t ∈ run a c n x, t ≤ 255
  | 0, _, _, t, h => by simp [run] at h
  | n + 1, x, hx, t, h => by
    simp only [run, List.mem_cons] at h
    rcases h with rfl | h
    · exact div_le hx
    · exact run_le a c n _ (next_le a c x) t h
theorem scan_mem {p : Nat → Bool} {x : Nat} : x ∈ scan (fun x => x) p 65536 0 ↔ x ≤ 65535 ∧ p x = true := by
  rw [scan_zero, List.map_id', List.mem_filter, List.mem_range]
  exact ⟨fun h => ⟨by omega, h.2⟩, fun h => ⟨by omega, h.2⟩⟩
/-- One word seen leaves 256 seeds. -/
theorem scan_all (f : Nat → Nat) (p : Nat → Bool) : ∀ m k, (∀ i, i < k + m → k ≤ i → p (f i) = true) → (scan f p m k).length = m
  | 0, _, _ => rfl
  | m + 1, k, h => by
    rw [scan, if_pos (h k (by omega) (by omega)), List.length_cons, scan_all f p m (k + 1) (fun i h1 h2 => h i (by omega) (by omega))]
theorem seeds_one (a c s : Nat) (hs : s ≤ 255) : (scan (fun x => x) (fit a c [s]) 65536 0).length = 256 := by
  rw [seeds_same a c s [] hs]
  refine scan_all _ _ 256 0 fun i h1 _ => ?_
  simp only [fit, Bool.and_true, decide_eq_true_eq]
  show (256 * s + i) / 256 = s
  omega
theorem seeds_few (a c s : Nat) (r : List Nat) (hs : s ≤ 255) : (scan (fun x => x) (fit a c (s :: r)) 65536 0).length ≤ 256 := by
  rw [seeds_same a c s r hs]
  exact scan_len _ _ _ _
theorem Row.first {σ : St} {b : Nat} {x : Int} {l : List Int} {d n : Nat} (h : Row σ b (x :: l)) (hn : 1 ≤ n) : frzV σ (d + 2) (.sl b 0 1 n) = some (.lst 1 (ints [x])) := by
  obtain ⟨o, hg, _⟩ := h
  unfold frzV
  simp only [hg]
  simp [ints, getCells, takeN, dropN, mapO, frzV, hn]
theorem FnV.at {T : Tab} {f : FuncId} {args : List AV} {v : AV} (h : FnV T f args v) (ha : ∀ σ, mapO (frzV σ frzDepth) args = some args) (σ : St) : callI T f args σ = some (v, σ) := h σ args (ha σ)
theorem row_nget {σ : St} {b i : Nat} {A : List Nat} {x : Nat} (h : Row σ b (nints A)) (hx : A[i]? = some x) : cellsAt σ (.ptr b i) 1 = some [.int .i64 (x : Int)] := h.read (nints_get hx)

noncomputable def b29 : Code := Try.f29.body.getD .skip
noncomputable def B29_0 : Code := (bodyC (bodyC (sndC (fstC (sndC b29)))))
noncomputable def K29_0 : List It := .lp B29_0 :: .blk 0 :: .code (sndC (sndC b29)) :: []
theorem xl29_0 {fi : FI} {env : Env} {σ : St} : exI TT fi K29_0 env σ = exI TT fi (.code B29_0 :: K29_0) env σ := by unfold K29_0; exact xI_lp
noncomputable def R29_0_0 : List It := .code (sndC (sndC b29)) :: []
theorem eK29_0_0 : exitA 0 K29_0 = some R29_0_0 := rfl
theorem l29 (A : List Nat) (x len : Nat) (hlen : len = A.length) (hl : len ≤ 1000000) (v : AV) (σ : St) (hv : v = .lst len (ints (nints A))) : ∀ (suf pre : List Nat), A = pre ++ suf → x ∈ suf →
    exI TT (FI.of Try.f29 (TT.an 29)) K29_0 [(0, v), (1, .int .i64 x), (5, .int .i64 pre.length)] σ = some (.bool true, σ) := by
  subst hv
  intro suf
  induction suf with
  | nil => intro pre hp hm; simp at hm
  | cons y suf ih =>
    intro pre hp hm
    have hll : len = pre.length + (suf.length + 1) := by rw [hlen, hp]; simp
    have hg : (nints A)[pre.length]? = some (y : Int) := nints_get (by simp [hp])
    have hlt : ¬ len ≤ pre.length := by omega
    have hlt2 : pre.length < len := by omega
    have hw := wrapS (n := pre.length) (by omega)
    by_cases hy : y = x
    · have hy' : (y : Int) = x := by omega
      rw [fi29]
      rw [xl29_0]
      simp only [B29_0, b29, Try.f29, Option.getD, fstC, sndC, bodyC, thnC, elsC]
      simp [xI_seq, xI_region, xI_ret, regA, regOps, runOps, opStep, wantedA, opA, evo, evos, calleeA, lk, nif_eq, putE, paramsE, valS, val2, keepE, restrict, finA, resA, binA, binInt, ofConst, ofConst1, loadA, TK.isAgg, asVar, unA, builtinA, lenOpA, lenA, ileb_cast, ileb_eq, ieqb_dec, indexAddrA, inB_dec, evPairs, storeA, AV.cellsOf, pairsOf, xI_nil, binBool, gcE, evOpt, xI_block, xI_loopH, xI_condM, xI_exitM, xI_skip, xI_blk, exitA, ty2, ty3, ty33, eK29_0_0, hlt, hlt2, hy, hy', lst_read hg]
    · have hy' : ¬ (y : Int) = x := by omega
      have h1 := ih (pre ++ [y]) (by simp [hp]) (by simp at hm; exact hm.resolve_left fun e => hy e.symm)
      simp only [List.length_append, List.length_singleton] at h1
      rw [fi29] at h1 ⊢
      rw [xl29_0]
      simp only [B29_0, b29, Try.f29, Option.getD, fstC, sndC, bodyC, thnC, elsC]
      simp [xI_seq, xI_region, xI_ret, regA, regOps, runOps, opStep, wantedA, opA, evo, evos, calleeA, lk, nif_eq, putE, paramsE, valS, val2, keepE, restrict, finA, resA, binA, binInt, ofConst, ofConst1, loadA, TK.isAgg, asVar, unA, builtinA, lenOpA, lenA, ileb_cast, ileb_eq, ieqb_dec, indexAddrA, inB_dec, evPairs, storeA, AV.cellsOf, pairsOf, xI_nil, binBool, gcE, evOpt, xI_block, xI_loopH, xI_condM, xI_exitM, xI_skip, xI_blk, exitA, ty2, ty3, ty33, eK29_0_0, hlt, hlt2, hw, hy, hy', lst_read hg]
      simpa using h1
theorem v29 (A : List Nat) (x : Nat) (hl : A.length ≤ 1000000) (hx : x ∈ A) : FnV TT 29 [.lst A.length (ints (nints A)), .int .i64 x] (.bool true) := by
  have h1 := l29 A x A.length rfl hl _ ⟨[], 0⟩ rfl A [] rfl hx
  refine FnV.mk fn29 rfl md29 ⟨⟨[], 0⟩, ?_⟩ (fun _ => rfl) rfl
  simp only [List.length_nil, show ((0 : Nat) : Int) = 0 from rfl, Int.natCast_zero] at h1
  rw [← h1, fi29]
  simp [xI_seq, xI_region, xI_ret, regA, regOps, runOps, opStep, wantedA, opA, evo, evos, calleeA, lk, nif_eq, putE, paramsE, valS, val2, keepE, restrict, finA, resA, binA, binInt, ofConst, ofConst1, loadA, TK.isAgg, asVar, unA, builtinA, lenOpA, lenA, ileb_cast, ileb_eq, ieqb_dec, indexAddrA, inB_dec, evPairs, storeA, AV.cellsOf, pairsOf, xI_nil, binBool, gcE, evOpt, xI_block, xI_loopH, xI_condM, xI_exitM, xI_skip, xI_blk, exitA, ty2, ty3, ty33, eK29_0_0]
  rfl

noncomputable def b4 : Code := Try.f4.body.getD .skip
noncomputable def B4_0 : Code := (bodyC (bodyC (sndC (fstC (sndC (sndC (sndC (sndC (sndC (sndC (sndC (sndC b4))))))))))))
noncomputable def K4_0 : List It := .lp B4_0 :: .blk 0 :: .code (sndC (sndC (sndC (sndC (sndC (sndC (sndC (sndC (sndC b4))))))))) :: []
theorem xl4_0 {fi : FI} {env : Env} {σ : St} : exI TT fi K4_0 env σ = exI TT fi (.code B4_0 :: K4_0) env σ := by unfold K4_0; exact xI_lp
noncomputable def R4_0_0 : List It := .code (sndC (sndC (sndC (sndC (sndC (sndC (sndC (sndC (sndC b4))))))))) :: []
theorem eK4_0_0 : exitA 0 K4_0 = some R4_0_0 := rfl
noncomputable def B4_1 : Code := (bodyC (bodyC (sndC (fstC (sndC (sndC (sndC (sndC (sndC (sndC (sndC (sndC (sndC (sndC (sndC (sndC b4))))))))))))))))
noncomputable def K4_1 : List It := .lp B4_1 :: .blk 2 :: .code (sndC (sndC (sndC (sndC (sndC (sndC (sndC (sndC (sndC (sndC (sndC (sndC (sndC b4))))))))))))) :: []
theorem xl4_1 {fi : FI} {env : Env} {σ : St} : exI TT fi K4_1 env σ = exI TT fi (.code B4_1 :: K4_1) env σ := by unfold K4_1; exact xI_lp
noncomputable def R4_1_2 : List It := .code (sndC (sndC (sndC (sndC (sndC (sndC (sndC (sndC (sndC (sndC (sndC (sndC (sndC b4))))))))))))) :: []
theorem eK4_1_2 : exitA 2 K4_1 = some R4_1_2 := rfl
noncomputable def B4_2 : Code := (bodyC (bodyC (sndC (sndC (sndC (bodyC (fstC (sndC (bodyC (bodyC (sndC (fstC (sndC (sndC (sndC (sndC (sndC (sndC (sndC (sndC (sndC (sndC (sndC (sndC b4))))))))))))))))))))))))
noncomputable def K4_2 : List It := .lp B4_2 :: .blk 4 :: .blk 3 :: .code (sndC (sndC (bodyC (bodyC (sndC (fstC (sndC (sndC (sndC (sndC (sndC (sndC (sndC (sndC (sndC (sndC (sndC (sndC b4)))))))))))))))))) :: K4_1
theorem xl4_2 {fi : FI} {env : Env} {σ : St} : exI TT fi K4_2 env σ = exI TT fi (.code B4_2 :: K4_2) env σ := by unfold K4_2; exact xI_lp
noncomputable def R4_2_4 : List It := .blk 3 :: .code (sndC (sndC (bodyC (bodyC (sndC (fstC (sndC (sndC (sndC (sndC (sndC (sndC (sndC (sndC (sndC (sndC (sndC (sndC b4)))))))))))))))))) :: K4_1
theorem eK4_2_4 : exitA 4 K4_2 = some R4_2_4 := rfl
noncomputable def R4_2_3 : List It := .code (sndC (sndC (bodyC (bodyC (sndC (fstC (sndC (sndC (sndC (sndC (sndC (sndC (sndC (sndC (sndC (sndC (sndC (sndC b4)))))))))))))))))) :: K4_1
theorem eK4_2_3 : exitA 3 K4_2 = some R4_2_3 := rfl
theorem eK4_2_2 : exitA 2 K4_2 = some R4_1_2 := rfl
theorem la4 (a c n X : Nat) (ha : a ≤ 65535) (hc : c ≤ 65535) (hn : n ≤ 1000) : ∀ (m k x : Nat) (out : List Nat) (b : Nat) (σ : St), k + m = n → out.length = k → x ≤ 65535 → Row σ b (nints out) →
    ∃ σ' b' x', exI TT (FI.of Try.f4 (TT.an 4)) K4_0 [(5, .int .i64 a), (6, .int .i64 c), (7, .int .i64 X), (8, .sl b 0 k k), (9, .int .i64 x), (10, .int .i64 n), (11, .int .i64 k)] σ = exI TT (FI.of Try.f4 (TT.an 4)) R4_0_0 [(5, .int .i64 a), (6, .int .i64 c), (7, .int .i64 X), (8, .sl b' 0 n n), (9, .int .i64 x'), (10, .int .i64 n), (11, .int .i64 n), (38, .bool false)] σ' ∧ Row σ' b' (nints (out ++ run a c m x)) := by
  intro m
  induction m with
  | zero =>
    intro k x out b σ hk ho hx hr
    obtain rfl : k = n := by omega
    refine ⟨σ, b, x, ?_, by simpa [run] using hr⟩
    rw [fi4]
    rw [xl4_0]
    simp only [B4_0, b4, Try.f4, Option.getD, fstC, sndC, bodyC, thnC, elsC]
    simp [xI_seq, xI_region, xI_ret, regA, regOps, runOps, opStep, wantedA, opA, evo, evos, calleeA, lk, nif_eq, putE, paramsE, valS, val2, keepE, restrict, finA, resA, binA, binInt, ofConst, ofConst1, loadA, TK.isAgg, asVar, unA, builtinA, lenOpA, lenA, ileb_cast, ileb_eq, ieqb_dec, indexAddrA, inB_dec, evPairs, storeA, AV.cellsOf, pairsOf, xI_nil, binBool, gcE, evOpt, xI_block, xI_loopH, xI_condM, xI_exitM, xI_skip, xI_blk, exitA, ty2, ty3, ty4, ty33, eK4_0_0, eK4_1_2, eK4_2_4, eK4_2_3, eK4_2_2]
  | succ m ih =>
    intro k x out b σ hk ho hx hr
    have hlt : ¬ n ≤ k := by omega
    have hlt' : ¬ (n : Int) ≤ (k : Int) := by omega
    have hlt2 : k < n := by omega
    have hw := wrapS (n := k) (by omega)
    have hax : a * x ≤ 65535 * 65535 := Nat.mul_le_mul ha (by omega)
    have m1 : wrapA .i64 ((a : Int) * (x : Int)) = ((mulN a x : Nat) : Int) := by rw [← Int.natCast_mul]; exact n_wrap (a := mulN a x) (by show a * x ≤ _; omega)
    have m2 : wrapA .i64 (((mulN a x : Nat) : Int) + (c : Int)) = ((addN (mulN a x) c : Nat) : Int) := by rw [← Int.natCast_add]; exact n_wrap (a := addN (mulN a x) c) (by show a * x + c ≤ _; omega)
    have m3 : ((addN (mulN a x) c : Nat) : Int).tmod 65536 = ((modN (addN (mulN a x) c) 65536 : Nat) : Int) := rfl
    have m3' : ((addN (mulN a x) c : Nat) : Int) % 65536 = ((modN (addN (mulN a x) c) 65536 : Nat) : Int) := rfl
    have m4 : wrapA .i64 ((x : Int) / 256) = ((divN x 256 : Nat) : Int) := n_wrap (a := divN x 256) (by show x / 256 ≤ _; omega)
    have m5 : (x : Int).tdiv 256 = ((divN x 256 : Nat) : Int) := rfl
    have m6 : (x : Int) / 256 = ((divN x 256 : Nat) : Int) := rfl
    have m7 : wrapA .i64 ((divN x 256 : Nat) : Int) = ((divN x 256 : Nat) : Int) := n_wrap (by show x / 256 ≤ _; omega)
    have hx' := next_le a c x
    obtain ⟨σ1, hap, hr1, hn1, _⟩ := nints_append_row (x := divN x 256) ty33 ty2 hr (n := k) ho.symm (by omega)
    obtain ⟨σ', b', x', h2, h3⟩ := ih (k + 1) (modN (addN (mulN a x) c) 65536) (out ++ [divN x 256]) _ σ1 (by omega) (by simp [ho]) hx' hr1
    refine ⟨σ', b', x', ?_, by simpa [run] using h3⟩
    rw [← h2]
    rw [fi4]
    rw [xl4_0]
    simp only [B4_0, b4, Try.f4, Option.getD, fstC, sndC, bodyC, thnC, elsC]
    generalize hE : exI TT = E
    simp only [← hE]
    simp [xI_seq, xI_region, xI_ret, regA, regOps, runOps, opStep, wantedA, opA, evo, evos, calleeA, lk, nif_eq, putE, paramsE, valS, val2, keepE, restrict, finA, resA, binA, binInt, ofConst, ofConst1, loadA, TK.isAgg, asVar, unA, builtinA, lenOpA, lenA, ileb_cast, ileb_eq, ieqb_dec, indexAddrA, inB_dec, evPairs, storeA, AV.cellsOf, pairsOf, xI_nil, binBool, gcE, evOpt, xI_block, xI_loopH, xI_condM, xI_exitM, xI_skip, xI_blk, exitA, ty2, ty3, ty4, ty33, eK4_0_0, eK4_1_2, eK4_2_4, eK4_2_3, eK4_2_2, hlt, hlt', hlt2, hw, hap, bs1, m1, m2, m3, m3', m4, m5, m6, m7]
theorem lb4 (a c n : Nat) (ha : a ≤ 65535) (hc : c ≤ 65535) (A : List Nat) (hA : A.length = n) (hn : n ≤ 1000) (b bl q i : Nat) (σ : St) (hr : Row σ b (nints A)) : ∀ (suf pre : List Nat) (x : Nat), A = pre ++ suf → x ≤ 65535 → fit a c suf x = true →
    ∃ x' : Nat, exI TT (FI.of Try.f4 (TT.an 4)) K4_2 [(5, .int .i64 a), (6, .int .i64 c), (8, .sl b 0 n n), (9, .int .i64 x), (10, .int .i64 n), (12, .sl bl 0 q q), (16, .int .i64 i), (17, .int .i64 pre.length)] σ = exI TT (FI.of Try.f4 (TT.an 4)) R4_2_4 [(5, .int .i64 a), (6, .int .i64 c), (8, .sl b 0 n n), (9, .int .i64 x'), (10, .int .i64 n), (12, .sl bl 0 q q), (16, .int .i64 i), (17, .int .i64 n), (107, .bool false)] σ := by
  intro suf
  induction suf with
  | nil =>
    intro pre x hp hx _
    have hll : n = pre.length := by rw [← hA, hp]; simp
    subst hll
    refine ⟨x, ?_⟩
    rw [fi4]
    rw [xl4_2]
    simp only [B4_2, b4, Try.f4, Option.getD, fstC, sndC, bodyC, thnC, elsC]
    simp [xI_seq, xI_region, xI_ret, regA, regOps, runOps, opStep, wantedA, opA, evo, evos, calleeA, lk, nif_eq, putE, paramsE, valS, val2, keepE, restrict, finA, resA, binA, binInt, ofConst, ofConst1, loadA, TK.isAgg, asVar, unA, builtinA, lenOpA, lenA, ileb_cast, ileb_eq, ieqb_dec, indexAddrA, inB_dec, evPairs, storeA, AV.cellsOf, pairsOf, xI_nil, binBool, gcE, evOpt, xI_block, xI_loopH, xI_condM, xI_exitM, xI_skip, xI_blk, exitA, ty2, ty3, ty4, ty33, eK4_0_0, eK4_1_2, eK4_2_4, eK4_2_3, eK4_2_2]
  | cons s suf ih =>
    intro pre x hp hx hf
    simp only [fit, Bool.and_eq_true, decide_eq_true_eq] at hf
    obtain ⟨hs, hf⟩ := hf
    have hll : n = pre.length + (suf.length + 1) := by rw [← hA, hp]; simp
    have hg : cellsAt σ (.ptr b pre.length) 1 = some [.int .i64 (s : Int)] := row_nget hr (by simp [hp])
    have hlt : ¬ n ≤ pre.length := by omega
    have hlt' : ¬ (n : Int) ≤ (pre.length : Int) := by omega
    have hlt2 : pre.length < n := by omega
    have hw := wrapS (n := pre.length) (by omega)
    have hax : a * x ≤ 65535 * 65535 := Nat.mul_le_mul ha (by omega)
    have m1 : wrapA .i64 ((a : Int) * (x : Int)) = ((mulN a x : Nat) : Int) := by rw [← Int.natCast_mul]; exact n_wrap (a := mulN a x) (by show a * x ≤ _; omega)
    have m2 : wrapA .i64 (((mulN a x : Nat) : Int) + (c : Int)) = ((addN (mulN a x) c : Nat) : Int) := by rw [← Int.natCast_add]; exact n_wrap (a := addN (mulN a x) c) (by show a * x + c ≤ _; omega)
    have m3 : ((addN (mulN a x) c : Nat) : Int).tmod 65536 = ((modN (addN (mulN a x) c) 65536 : Nat) : Int) := rfl
    have m3' : ((addN (mulN a x) c : Nat) : Int) % 65536 = ((modN (addN (mulN a x) c) 65536 : Nat) : Int) := rfl
    have m4 : wrapA .i64 ((x : Int) / 256) = ((divN x 256 : Nat) : Int) := n_wrap (a := divN x 256) (by show x / 256 ≤ _; omega)
    have m5 : (x : Int).tdiv 256 = ((divN x 256 : Nat) : Int) := rfl
    have m6 : (x : Int) / 256 = ((divN x 256 : Nat) : Int) := rfl
    have m7 : wrapA .i64 ((divN x 256 : Nat) : Int) = ((divN x 256 : Nat) : Int) := n_wrap (by show x / 256 ≤ _; omega)
    have hx' := next_le a c x
    have hs' : ((divN x 256 : Nat) : Int) = (s : Int) := by omega
    have hs2 : wrapA .i64 (s : Int) = (s : Int) := by rw [← hs']; exact m7
    obtain ⟨x', h1⟩ := ih (pre ++ [s]) _ (by simp [hp]) hx' hf
    refine ⟨x', ?_⟩
    simp only [List.length_append, List.length_singleton] at h1
    rw [fi4] at h1 ⊢
    rw [xl4_2]
    simp only [B4_2, b4, Try.f4, Option.getD, fstC, sndC, bodyC, thnC, elsC]
    simp [xI_seq, xI_region, xI_ret, regA, regOps, runOps, opStep, wantedA, opA, evo, evos, calleeA, lk, nif_eq, putE, paramsE, valS, val2, keepE, restrict, finA, resA, binA, binInt, ofConst, ofConst1, loadA, TK.isAgg, asVar, unA, builtinA, lenOpA, lenA, ileb_cast, ileb_eq, ieqb_dec, indexAddrA, inB_dec, evPairs, storeA, AV.cellsOf, pairsOf, xI_nil, binBool, gcE, evOpt, xI_block, xI_loopH, xI_condM, xI_exitM, xI_skip, xI_blk, exitA, ty2, ty3, ty4, ty33, eK4_0_0, eK4_1_2, eK4_2_4, eK4_2_3, eK4_2_2, hlt, hlt', hlt2, hw, hg, hs, hs', hs2, m1, m2, m3, m3', m4, m5, m6, m7]
    simpa using h1
theorem lc4 (a c n : Nat) (ha : a ≤ 65535) (hc : c ≤ 65535) (A : List Nat) (hA : A.length = n) (hn : n ≤ 1000) (L : List Nat) (q : Nat) (hL : L.length = q) (hq : q ≤ 1000) (b bl : Nat) (σ : St) (hr : Row σ b (nints A)) (hrl : Row σ bl (nints L)) : ∀ (suf pre : List Nat), L = pre ++ suf → (∀ x ∈ suf, x ≤ 65535 ∧ fit a c A x = true) →
    exI TT (FI.of Try.f4 (TT.an 4)) K4_1 [(5, .int .i64 a), (6, .int .i64 c), (8, .sl b 0 n n), (10, .int .i64 n), (12, .sl bl 0 q q), (16, .int .i64 pre.length)] σ = some (.bool true, σ) := by
  intro suf
  induction suf with
  | nil =>
    intro pre hp _
    have hll : q = pre.length := by rw [← hL, hp]; simp
    subst hll
    rw [fi4]
    rw [xl4_1]
    simp only [B4_1, b4, Try.f4, Option.getD, fstC, sndC, bodyC, thnC, elsC]
    simp [xI_seq, xI_region, xI_ret, regA, regOps, runOps, opStep, wantedA, opA, evo, evos, calleeA, lk, nif_eq, putE, paramsE, valS, val2, keepE, restrict, finA, resA, binA, binInt, ofConst, ofConst1, loadA, TK.isAgg, asVar, unA, builtinA, lenOpA, lenA, ileb_cast, ileb_eq, ieqb_dec, indexAddrA, inB_dec, evPairs, storeA, AV.cellsOf, pairsOf, xI_nil, binBool, gcE, evOpt, xI_block, xI_loopH, xI_condM, xI_exitM, xI_skip, xI_blk, exitA, ty2, ty3, ty4, ty33, eK4_0_0, eK4_1_2, eK4_2_4, eK4_2_3, eK4_2_2]
    simp only [R4_1_2, b4, Try.f4, Option.getD, fstC, sndC, bodyC, thnC, elsC]
    simp [xI_seq, xI_region, xI_ret, regA, regOps, runOps, opStep, wantedA, opA, evo, evos, calleeA, lk, nif_eq, putE, paramsE, valS, val2, keepE, restrict, finA, resA, binA, binInt, ofConst, ofConst1, loadA, TK.isAgg, asVar, unA, builtinA, lenOpA, lenA, ileb_cast, ileb_eq, ieqb_dec, indexAddrA, inB_dec, evPairs, storeA, AV.cellsOf, pairsOf, xI_nil, binBool, gcE, evOpt, xI_block, xI_loopH, xI_condM, xI_exitM, xI_skip, xI_blk, exitA, ty2, ty3, ty4, ty33, eK4_0_0, eK4_1_2, eK4_2_4, eK4_2_3, eK4_2_2]
  | cons x suf ih =>
    intro pre hp hx
    have hll : q = pre.length + (suf.length + 1) := by rw [← hL, hp]; simp
    have hg : cellsAt σ (.ptr bl pre.length) 1 = some [.int .i64 (x : Int)] := row_nget hrl (by simp [hp])
    have hlt : ¬ q ≤ pre.length := by omega
    have hlt2 : pre.length < q := by omega
    have hw := wrapS (n := pre.length) (by omega)
    obtain ⟨hx1, hx2⟩ := hx x (by simp)
    have hx3 : (x : Int) ≤ 65535 := by omega
    have hx4 : ¬ (65535 : Int) < (x : Int) := by omega
    have hx5 : (0 : Int) ≤ (x : Int) := by omega
    have hx6 : ¬ (x : Int) < 0 := by omega
    have h1 := ih (pre ++ [x]) (by simp [hp]) (fun y hy => hx y (by simp [hy]))
    obtain ⟨x', h2⟩ := lb4 a c n ha hc A hA hn b bl q pre.length σ hr A [] x rfl hx1 hx2
    simp only [List.length_nil, Int.natCast_zero, show ((0 : Nat) : Int) = 0 from rfl] at h2
    simp only [List.length_append, List.length_singleton] at h1
    rw [fi4] at h1 h2 ⊢
    rw [xl4_1]
    simp only [B4_1, b4, Try.f4, Option.getD, fstC, sndC, bodyC, thnC, elsC]
    simp [xI_seq, xI_region, xI_ret, regA, regOps, runOps, opStep, wantedA, opA, evo, evos, calleeA, lk, nif_eq, putE, paramsE, valS, val2, keepE, restrict, finA, resA, binA, binInt, ofConst, ofConst1, loadA, TK.isAgg, asVar, unA, builtinA, lenOpA, lenA, ileb_cast, ileb_eq, ieqb_dec, indexAddrA, inB_dec, evPairs, storeA, AV.cellsOf, pairsOf, xI_nil, binBool, gcE, evOpt, xI_block, xI_loopH, xI_condM, xI_exitM, xI_skip, xI_blk, exitA, ty2, ty3, ty4, ty33, eK4_0_0, eK4_1_2, eK4_2_4, eK4_2_3, eK4_2_2, hlt, hlt2, hg, hx1, hx3, hx4, hx5, hx6]
    refine h2.trans ?_
    simp only [R4_2_4, b4, Try.f4, Option.getD, fstC, sndC, bodyC, thnC, elsC]
    simp [xI_seq, xI_region, xI_ret, regA, regOps, runOps, opStep, wantedA, opA, evo, evos, calleeA, lk, nif_eq, putE, paramsE, valS, val2, keepE, restrict, finA, resA, binA, binInt, ofConst, ofConst1, loadA, TK.isAgg, asVar, unA, builtinA, lenOpA, lenA, ileb_cast, ileb_eq, ieqb_dec, indexAddrA, inB_dec, evPairs, storeA, AV.cellsOf, pairsOf, xI_nil, binBool, gcE, evOpt, xI_block, xI_loopH, xI_condM, xI_exitM, xI_skip, xI_blk, exitA, ty2, ty3, ty4, ty33, eK4_0_0, eK4_1_2, eK4_2_4, eK4_2_3, eK4_2_2, hw]
    simpa using h1

theorem v4 (code : List Nat) (hb : ∀ x ∈ code, x < 256) (more : List Nat) (hm : ∀ x ∈ more, x < 256) : FnV TT 4 [.lst code.length (byts code), .lst more.length (byts more)] (.bool true) := by
  have eL := FnV.at (v25 code more) (fun _ => rfl)
  by_cases hlg : 48 < code.length ∨ 48 < more.length
  · have hlg' : (decide (48 < code.length) || decide (48 < more.length)) = true := by simpa using hlg
    rw [hlg'] at eL
    refine FnV.mk fn4 rfl md4 ⟨⟨[], 0⟩, ?_⟩ (fun _ => rfl) rfl
    rw [fi4]
    simp [xI_seq, xI_region, xI_ret, regA, regOps, runOps, opStep, wantedA, opA, evo, evos, calleeA, lk, nif_eq, putE, paramsE, valS, val2, keepE, restrict, finA, resA, binA, binInt, ofConst, ofConst1, loadA, TK.isAgg, asVar, unA, builtinA, lenOpA, lenA, ileb_cast, ileb_eq, ieqb_dec, indexAddrA, inB_dec, evPairs, storeA, AV.cellsOf, pairsOf, xI_nil, binBool, gcE, evOpt, xI_block, xI_loopH, xI_condM, xI_exitM, xI_skip, xI_blk, exitA, ty2, ty3, ty4, ty33, eK4_0_0, eK4_1_2, eK4_2_4, eK4_2_3, eK4_2_2, eL]
  · have hlg' : (decide (48 < code.length) || decide (48 < more.length)) = false := by simpa using hlg
    rw [hlg'] at eL
    obtain ⟨a, ha, ea⟩ := v26 code hb (by omega) 65536 (by decide)
    obtain ⟨c, hc, ec⟩ := v26 more hm (by omega) 65536 (by decide)
    obtain ⟨r2, h2, e2⟩ := v27 code hb (by omega) 2 (by decide) 256 (by decide)
    obtain ⟨r3, h3, e3⟩ := v27 code hb (by omega) 3 (by decide) 256 (by decide)
    obtain ⟨r4, h4, e4⟩ := v27 more hm (by omega) 2 (by decide) 4 (by decide)
    replace ea := FnV.at ea (fun _ => rfl)
    replace ec := FnV.at ec (fun _ => rfl)
    replace e2 := FnV.at e2 (fun _ => rfl)
    replace e3 := FnV.at e3 (fun _ => rfl)
    replace e4 := FnV.at e4 (fun _ => rfl)
    simp only [show ((65536 : Nat) : Int) = 65536 from rfl] at ea ec
    simp only [show ((2 : Nat) : Int) = 2 from rfl, show ((256 : Nat) : Int) = 256 from rfl] at e2
    simp only [show ((3 : Nat) : Int) = 3 from rfl, show ((256 : Nat) : Int) = 256 from rfl] at e3
    simp only [show ((2 : Nat) : Int) = 2 from rfl, show ((4 : Nat) : Int) = 4 from rfl] at e4
    have ha : a ≤ 65535 := by simp at ha; omega
    have hc : c ≤ 65535 := by simp at hc; omega
    have h2 : r2 ≤ 255 := by simp at h2; omega
    have h3 : r3 ≤ 255 := by simp at h3; omega
    have h4 : r4 ≤ 3 := by simp at h4; omega
    have w1 : wrapA .i64 (256 * (r2 : Int)) = ((mulN 256 r2 : Nat) : Int) := n_wrap (a := mulN 256 r2) (by show 256 * r2 ≤ _; omega)
    have w2 : wrapA .i64 (((mulN 256 r2 : Nat) : Int) + (r3 : Int)) = ((addN (mulN 256 r2) r3 : Nat) : Int) := by rw [← Int.natCast_add]; exact n_wrap (a := addN (mulN 256 r2) r3) (by show 256 * r2 + r3 ≤ _; omega)
    have w3 : wrapA .i64 (2 + (r4 : Int)) = ((addN 2 r4 : Nat) : Int) := n_wrap (a := addN 2 r4) (by show 2 + r4 ≤ _; omega)
    have hX : addN (mulN 256 r2) r3 ≤ 65535 := by show 256 * r2 + r3 ≤ _; omega
    have hn : 1 ≤ addN 2 r4 := by show 1 ≤ 2 + r4; omega
    have hn2 : addN 2 r4 ≤ 10 := by show 2 + r4 ≤ _; omega
    generalize addN (mulN 256 r2) r3 = X at *
    generalize addN 2 r4 = n at *
    obtain ⟨σ1, b, x', g1, r1⟩ := la4 a c n X ha hc (by omega) n 0 X [] 0 ((⟨[], 0⟩ : St).push ⟨ints [], 1, false⟩) (by omega) rfl hX Row.push
    rw [List.nil_append] at r1
    have hAl := run_length a c n X
    have hAf := run_fit a c n X
    have hAb := run_le a c n X hX
    generalize hA : run a c n X = A at *
    obtain ⟨s, r, rfl⟩ : ∃ s r, A = s :: r := by cases A with
      | nil => simp at hAl; omega
      | cons s r => exact ⟨s, r, rfl⟩
    have hs : s ≤ 255 := hAb s (by simp)
    have ok1 : sbOk (a : Int) c (nints (s :: r)) = true := by
      simp only [sbOk, Bool.and_eq_true, nints_length, hAl]
      refine ⟨⟨⟨inR_iff.2 ⟨by omega, by omega⟩, inR_iff.2 ⟨by omega, by omega⟩⟩, inR_iff.2 ⟨by omega, by omega⟩⟩, ?_⟩
      rw [allR, List.all_eq_true]
      intro t ht
      obtain ⟨u, hu, rfl⟩ := List.mem_map.1 ht
      have := hAb u hu
      exact inR_iff.2 ⟨by omega, by omega⟩
    have ok2 : sbOk (a : Int) c (nints [s]) = true := by
      simp only [sbOk, Bool.and_eq_true, nints_length]
      refine ⟨⟨⟨inR_iff.2 ⟨by omega, by omega⟩, inR_iff.2 ⟨by omega, by omega⟩⟩, inR_iff.2 ⟨by simp, by simp⟩⟩, ?_⟩
      rw [allR, List.all_eq_true]
      intro t ht
      obtain ⟨u, hu, rfl⟩ := List.mem_map.1 ht
      have := hAb u (by simp at hu; simp [hu])
      exact inR_iff.2 ⟨by omega, by omega⟩
    have o1 := o28 a c (nints (s :: r)) (by rw [nints_length]; omega)
    rw [sbR_yes ok1, nints_length, hAl] at o1
    have o2 := o28 a c (nints [s]) (by simp [nints])
    rw [sbR_yes ok2, nints_length, show [s].length = 1 from rfl] at o2
    obtain ⟨bl, σ2, c1, q1, k1, _⟩ := FnO.row o1 (σ := σ1) (args := [.int .i64 a, .int .i64 c, .sl b 0 n n]) (mapO_cons rfl (mapO_cons rfl (mapO_cons (r1.frz (by rw [nints_length, hAl]) (Nat.le_refl _)) rfl)))
    have r2 := r1.old k1
    obtain ⟨bw, σ3, c2, q2, k2, _⟩ := FnO.row o2 (σ := σ2) (args := [.int .i64 a, .int .i64 c, .sl b 0 1 n]) (mapO_cons rfl (mapO_cons rfl (mapO_cons (Row.first r2 hn) rfl)))
    have r3 := r2.old k2
    have q3 := q1.old k2
    rw [nints_length] at c1 c2
    rw [seeds_one a c s hs] at c2
    have hfew := seeds_few a c s r hs
    have hmem : X ∈ scan (fun x => x) (fit a c (s :: r)) 65536 0 := scan_mem.2 ⟨hX, hAf⟩
    have hall : ∀ x ∈ scan (fun x => x) (fit a c (s :: r)) 65536 0, x ≤ 65535 ∧ fit a c (s :: r) x = true := fun x hx => scan_mem.1 hx
    generalize scan (fun x => x) (fit a c (s :: r)) 65536 0 = L at *
    have c3 := v29 L X (by omega) hmem σ3 [.sl bl 0 L.length L.length, .int .i64 X] (mapO_cons (q3.frz (nints_length _).symm (Nat.le_refl _)) rfl)
    have g2 := lc4 a c n ha hc (s :: r) hAl (by omega) L L.length rfl (by omega) b bl σ3 r3 q3 L [] rfl hall
    generalize L.length = q at *
    have hq1 : ¬ 256 < q := by omega
    have hq2 : (q : Int) ≤ 256 := by omega
    have hn' : (1 : Int) ≤ (n : Int) := by omega
    have g3 : exI TT (FI.of Try.f4 (TT.an 4)) R4_0_0 [(5, .int .i64 a), (6, .int .i64 c), (7, .int .i64 X), (8, .sl b 0 n n), (9, .int .i64 x'), (10, .int .i64 n), (11, .int .i64 n), (38, .bool false)] σ1 = some (.bool true, σ3) := by
      rw [← g2, fi4]
      simp only [R4_0_0, b4, Try.f4, Option.getD, fstC, sndC, bodyC, thnC, elsC]
      simp [xI_seq, xI_region, xI_ret, regA, regOps, runOps, opStep, wantedA, opA, evo, evos, calleeA, lk, nif_eq, putE, paramsE, valS, val2, keepE, restrict, finA, resA, binA, binInt, ofConst, ofConst1, loadA, TK.isAgg, asVar, unA, builtinA, lenOpA, lenA, ileb_cast, ileb_eq, ieqb_dec, indexAddrA, inB_dec, evPairs, storeA, AV.cellsOf, pairsOf, xI_nil, binBool, gcE, evOpt, xI_block, xI_loopH, xI_condM, xI_exitM, xI_skip, xI_blk, exitA, ty2, ty3, ty4, ty33, eK4_0_0, eK4_1_2, eK4_2_4, eK4_2_3, eK4_2_2, sliceA, boundA, c1, c2, c3, hn, hn', hfew, hq1, hq2]
      rfl
    have g4 := g1.trans g3
    refine FnV.mk fn4 rfl md4 ⟨σ3, ?_⟩ (fun _ => rfl) rfl
    rw [← g4, fi4]
    simp [xI_seq, xI_region, xI_ret, regA, regOps, runOps, opStep, wantedA, opA, evo, evos, calleeA, lk, nif_eq, putE, paramsE, valS, val2, keepE, restrict, finA, resA, binA, binInt, ofConst, ofConst1, loadA, TK.isAgg, asVar, unA, builtinA, lenOpA, lenA, ileb_cast, ileb_eq, ieqb_dec, indexAddrA, inB_dec, evPairs, storeA, AV.cellsOf, pairsOf, xI_nil, binBool, gcE, evOpt, xI_block, xI_loopH, xI_condM, xI_exitM, xI_skip, xI_blk, exitA, ty2, ty3, ty4, ty33, eK4_0_0, eK4_1_2, eK4_2_4, eK4_2_3, eK4_2_2, eL, ea, ec, e2, e3, e4, w1, w2, w3, bn0]
    rfl

end Go.Proofs.Ytonnbgjbohbibaa
