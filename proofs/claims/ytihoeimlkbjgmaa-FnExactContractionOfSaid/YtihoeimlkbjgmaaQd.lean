/- Numbers of any size, fractions, chances: contracts. Nothing is claimed here; no condition. -/
import Derived.Test.YtihoeimlkbjgmaaQc
set_option linter.unusedSimpArgs false
set_option linter.unusedVariables false
namespace Go.Proofs.Ytihoeimlkbjgmaa
open Go Go.Abs Go.Nm
attribute [local simp] xI_seq xI_region xI_ret regA regOps runOps opStep wantedA opA evo evos calleeA lk nif_eq putE paramsE valS val2 keepE restrict finA resA binA binInt ofConst ofConst1 loadA TK.isAgg asVar unA builtinA lenOpA lenA indexAddrA evPairs storeA AV.cellsOf pairsOf xI_nil binBool gcE evOpt runTr pairsOk pairOk sameVal AV.eqv lastOf lstAt eqvs boundA indexA regF twoOf prsOf memI runTrF selF runTr2 freshOp scals AV.scal xI_block xI_loopH xI_condM xI_exitM xI_skip xI_blk exitA List.getElem?_cons_zero List.getElem?_cons_succ List.getElem?_toArray List.getElem?_nil ileb_t ileb_f ieqb_t ieqb_f inB_t wrapA_id lp_read ieqb_self Nat.blt_eq cond_true cond_false ty2 ty3 ty58 ty97
theorem full_dg {B : Nat} (hB : 2 ≤ B) {l : List Nat} (h : Dg B l) (hl : l.length ≤ (dg B (val B l)).length) : l = dg B (val B l) := by
  have h1 := trim_dg hB h
  obtain ⟨h2, h3, _⟩ := trimL_take l
  rw [h1] at h2 h3
  conv => lhs; rw [← List.take_of_length_le hl, ← h2]
/-- A carry as digits. -/
def cy : Nat → List Nat
  | 0 => []
  | n + 1 => [n + 1]
theorem cy_pos {n : Nat} (h : 0 < n) : cy n = [n] := by cases n with
  | zero => omega
  | succ n => rfl
theorem dg_mono {B a b : Nat} (hB : 2 ≤ B) (h : a ≤ b) : (dg B a).length ≤ (dg B b).length := dg_len_le hB (Nat.lt_of_le_of_lt h (lt_dg_len hB b))
theorem dg_ge {B k n : Nat} (hB : 2 ≤ B) (h : B ^ k ≤ n) : k < (dg B n).length := by
  have h1 := lt_dg_len hB n
  exact (Nat.pow_lt_pow_iff_right (by omega)).1 (Nat.lt_of_le_of_lt h h1)
theorem ap1 {σ : St} {b n : Nat} {l : List Nat} {x : Nat} (hb : RowD σ b .i64 l) (hn : n = l.length) (hs : n < 1000000000000) :
    ∃ σ1 σ', buildSliceA TT σ 97 1 [(0, .int .i64 (x : Int))] = some (.sl σ.n 0 1 1, σ1) ∧ appendA TT σ1 97 97 (.sl b 0 n n) (.sl σ.n 0 1 1) = some (.sl (σ.n + 1) 0 (n + 1) (n + 1), σ') ∧ RowD σ' (σ.n + 1) .i64 (l ++ [x]) := by
  obtain ⟨σ', h1, h2, _, _⟩ := append_dgs (T := TT) (st := 97) (e := 2) ty97 ty2 (by decide) hb hn hs (x := x)
  exact ⟨_, σ', build_dgs ty97 ty2, h1, h2⟩
theorem frz_big {σ : St} {b n c N : Nat} (h : RowD σ b .i64 (dg 1073741824 N)) (hn : n = (dg 1073741824 N).length) (hc : n ≤ c) : frzV σ frzDepth (.sl b 0 n c) = some (SB N) := by
  subst hn
  have := h.frz (d := 4) (Nat.le_refl _) hc
  rw [List.take_of_length_le (Nat.le_refl _)] at this
  exact this
theorem and30i {a : Nat} (h : a ≤ 9223372036854775807) : bitsA .and .i64 (a : Int) 1073741823 = some (.int .i64 ((a % 1073741824 : Nat) : Int)) := and30 h

noncomputable def b145 : Code := Try.f145.body.getD .skip
noncomputable def B145_0 : Code := (bodyC (bodyC (fstC (sndC (sndC b145)))))
noncomputable def K145_0 : List It := .lp B145_0 :: .blk 0 :: .code (sndC (sndC (sndC b145))) :: []
theorem xl145_0 {fi : FI} {env : Env} {σ : St} : exI TT fi K145_0 env σ = exI TT fi (.code B145_0 :: K145_0) env σ := by unfold K145_0; exact xI_lp
noncomputable def R145_0_0 : List It := .code (sndC (sndC (sndC b145))) :: []
theorem eK145_0_0 : exitA 0 K145_0 = some R145_0_0 := rfl
theorem st145 (x b n a b2 n2 q : Nat) (σ σ1 σ2 : St) (hx : 0 < x) (c1 : bitsA .and .i64 (x : Int) 1073741823 = some (.int .i64 (a : Int))) (c2 : buildSliceA TT σ 97 1 [(0, .int .i64 (a : Int))] = some (.sl σ.n 0 1 1, σ1)) (c3 : appendA TT σ1 97 97 (.sl b 0 n n) (.sl σ.n 0 1 1) = some (.sl b2 0 n2 n2, σ2)) (c4 : shrA (x : Int) (min 30 IntKind.i64.bits) = (q : Int)) :
    exI TT (FI.of Try.f145 (TT.an 145)) K145_0 [(0, .int .i64 x), (3, .sl b 0 n n)] σ = exI TT (FI.of Try.f145 (TT.an 145)) K145_0 [(0, .int .i64 q), (3, .sl b2 0 n2 n2)] σ2 := by
  have hx0 : (0 : Int) < (x : Int) := by omega
  rw [fi145]
  conv => lhs; rw [xl145_0]
  simp only [B145_0, b145, Try.f145, Option.getD, fstC, sndC, bodyC, thnC, elsC]
  simp (maxSteps := 1000000) (disch := omega) [eK145_0_0, c1, c2, c3, c4]
theorem en145 (b n : Nat) (σ : St) : exI TT (FI.of Try.f145 (TT.an 145)) K145_0 [(0, .int .i64 0), (3, .sl b 0 n n)] σ = some (.sl b 0 n n, σ) := by
  rw [fi145, xl145_0]
  simp only [B145_0, b145, Try.f145, Option.getD, fstC, sndC, bodyC, thnC, elsC]
  simp (maxSteps := 1000000) (disch := omega) [eK145_0_0]
  simp only [R145_0_0, b145, Try.f145, Option.getD, fstC, sndC, bodyC, thnC, elsC]
  simp (maxSteps := 1000000) (disch := omega) [eK145_0_0]
theorem be145 (x : Nat) : exI TT (FI.of Try.f145 (TT.an 145)) [.code b145] (paramsE 0 [.int .i64 x]) ⟨[], 0⟩ = exI TT (FI.of Try.f145 (TT.an 145)) K145_0 [(0, .int .i64 x), (3, .sl 0 0 0 0)] ((⟨[], 0⟩ : St).push ⟨dgs .i64 [], 1, false⟩) := by
  have hb := build_dgs0 (T := TT) (σ := ⟨[], 0⟩) (st := 97) (k := .i64) ty97 ty2
  rw [fi145]
  simp only [b145, Try.f145, Option.getD, fstC, sndC, bodyC, thnC, elsC]
  simp (maxSteps := 1000000) (disch := omega) [eK145_0_0, hb]
  rfl
theorem l145 : ∀ (x : Nat) (pre : List Nat) (b : Nat) (σ : St), x ≤ 9223372036854775807 → pre.length < 100 → RowD σ b .i64 pre → pre.length + (dg 1073741824 x).length < 100 →
    ∃ b' σ', exI TT (FI.of Try.f145 (TT.an 145)) K145_0 [(0, .int .i64 x), (3, .sl b 0 pre.length pre.length)] σ = some (.sl b' 0 (pre ++ dg 1073741824 x).length (pre ++ dg 1073741824 x).length, σ') ∧ RowD σ' b' .i64 (pre ++ dg 1073741824 x) := by
  intro x
  induction x using Nat.strongRecOn with
  | ind x ih =>
    intro pre b σ hx hp hr hl
    rcases Nat.eq_zero_or_pos x with rfl | hpos
    · rw [dg_zero, List.append_nil]
      exact ⟨b, σ, en145 b pre.length σ, hr⟩
    · obtain ⟨σ1, σ2, a1, a2, a3⟩ := ap1 (x := x % 1073741824) hr rfl (by omega)
      have hd := dg_pos (B := 1073741824) (by decide) hpos
      rw [hd, List.length_cons] at hl
      obtain ⟨b', σ', k1, k2⟩ := ih (x / 1073741824) (Nat.div_lt_self hpos (by decide)) (pre ++ [x % 1073741824]) (σ.n + 1) σ2 (by omega) (by simp; omega) a3 (by simp; omega)
      have e : pre ++ dg 1073741824 x = pre ++ [x % 1073741824] ++ dg 1073741824 (x / 1073741824) := by rw [hd]; simp
      rw [e]
      refine ⟨b', σ', ?_, k2⟩
      rw [← k1, List.length_append, List.length_singleton]
      exact st145 x b pre.length (x % 1073741824) (σ.n + 1) (pre.length + 1) (x / 1073741824) σ σ1 σ2 hpos (and30i hx) a1 a2 (shr30 x)
theorem v145 (x : Nat) (hx : x ≤ 9223372036854775807) : FnF TT 145 [.int .i64 x] (SB x) := by
  have hl : (dg 1073741824 x).length ≤ 3 := dg_len_le (by decide) (Nat.lt_of_le_of_lt hx (by decide))
  obtain ⟨b', σ', k1, k2⟩ := l145 x [] 0 ((⟨[], 0⟩ : St).push ⟨dgs .i64 [], 1, false⟩) hx (by decide) RowA.push (by simp; omega)
  rw [List.nil_append] at k1 k2
  exact FnF.mk (c := b145) fn145 rfl md145 ⟨σ', _, by rw [be145]; exact k1, frz_big k2 rfl (Nat.le_refl _)⟩

noncomputable def b178 : Code := Try.f178.body.getD .skip
noncomputable def B178_0 : Code := (bodyC (bodyC (sndC (fstC (sndC (sndC b178))))))
noncomputable def K178_0 : List It := .lp B178_0 :: .blk 0 :: .code (sndC (sndC (sndC b178))) :: []
theorem xl178_0 {fi : FI} {env : Env} {σ : St} : exI TT fi K178_0 env σ = exI TT fi (.code B178_0 :: K178_0) env σ := by unfold K178_0; exact xI_lp
noncomputable def R178_0_0 : List It := .code (sndC (sndC (sndC b178))) :: []
theorem eK178_0_0 : exitA 0 K178_0 = some R178_0_0 := rfl
theorem s178l (a b : List Nat) (la lb m x y : Nat) (σ : St) (h1 : m < la) (h2 : m < lb) (r1 : ∀ σ : St, cellsAt σ (.lp (dgs .i64 a) m) 1 = some [.int .i64 (x : Int)]) (r2 : ∀ σ : St, cellsAt σ (.lp (dgs .i64 b) m) 1 = some [.int .i64 (y : Int)]) (h : x < y) :
    exI TT (FI.of Try.f178 (TT.an 178)) K178_0 [(0, .lst la (dgs .i64 a)), (1, .lst lb (dgs .i64 b)), (5, .int .i64 m)] σ = some (.int .i64 (-1), σ) := by
  have h' : (x : Int) < (y : Int) := by omega
  have hm : (0 : Int) ≤ (m : Int) := by omega
  rw [fi178, xl178_0]
  simp only [B178_0, b178, Try.f178, Option.getD, fstC, sndC, bodyC, thnC, elsC]
  simp (maxSteps := 1000000) (disch := omega) [eK178_0_0, r1, r2]
theorem s178g (a b : List Nat) (la lb m x y : Nat) (σ : St) (h1 : m < la) (h2 : m < lb) (r1 : ∀ σ : St, cellsAt σ (.lp (dgs .i64 a) m) 1 = some [.int .i64 (x : Int)]) (r2 : ∀ σ : St, cellsAt σ (.lp (dgs .i64 b) m) 1 = some [.int .i64 (y : Int)]) (h : y < x) :
    exI TT (FI.of Try.f178 (TT.an 178)) K178_0 [(0, .lst la (dgs .i64 a)), (1, .lst lb (dgs .i64 b)), (5, .int .i64 m)] σ = some (.int .i64 1, σ) := by
  have h' : (y : Int) < (x : Int) := by omega
  have hm : (0 : Int) ≤ (m : Int) := by omega
  rw [fi178, xl178_0]
  simp only [B178_0, b178, Try.f178, Option.getD, fstC, sndC, bodyC, thnC, elsC]
  simp (maxSteps := 1000000) (disch := omega) [eK178_0_0, r1, r2]
theorem s178e (a b : List Nat) (la lb m x : Nat) (σ : St) (h1 : m < la) (h2 : m < lb) (r1 : ∀ σ : St, cellsAt σ (.lp (dgs .i64 a) m) 1 = some [.int .i64 (x : Int)]) (r2 : ∀ σ : St, cellsAt σ (.lp (dgs .i64 b) m) 1 = some [.int .i64 (x : Int)]) (hw : wrapA .i64 ((m : Int) - 1) = (m : Int) - 1) :
    exI TT (FI.of Try.f178 (TT.an 178)) K178_0 [(0, .lst la (dgs .i64 a)), (1, .lst lb (dgs .i64 b)), (5, .int .i64 m)] σ = exI TT (FI.of Try.f178 (TT.an 178)) K178_0 [(0, .lst la (dgs .i64 a)), (1, .lst lb (dgs .i64 b)), (5, .int .i64 ((m : Int) - 1))] σ := by
  have hm : (0 : Int) ≤ (m : Int) := by omega
  rw [fi178]
  conv => lhs; rw [xl178_0]
  simp only [B178_0, b178, Try.f178, Option.getD, fstC, sndC, bodyC, thnC, elsC]
  simp (maxSteps := 1000000) (disch := omega) [eK178_0_0, r1, r2, hw]
theorem en178 (a b : List Nat) (la lb : Nat) (σ : St) : exI TT (FI.of Try.f178 (TT.an 178)) K178_0 [(0, .lst la (dgs .i64 a)), (1, .lst lb (dgs .i64 b)), (5, .int .i64 (-1))] σ = some (.int .i64 0, σ) := by
  rw [fi178, xl178_0]
  simp only [B178_0, b178, Try.f178, Option.getD, fstC, sndC, bodyC, thnC, elsC]
  simp (maxSteps := 1000000) (disch := omega) [eK178_0_0]
  simp only [R178_0_0, b178, Try.f178, Option.getD, fstC, sndC, bodyC, thnC, elsC]
  simp (maxSteps := 1000000) (disch := omega) [eK178_0_0]
theorem be178l (a b : List Nat) (la lb : Nat) (h : la < lb) (σ : St) : exI TT (FI.of Try.f178 (TT.an 178)) [.code b178] (paramsE 0 [.lst la (dgs .i64 a), .lst lb (dgs .i64 b)]) σ = some (.int .i64 (-1), σ) := by
  have h1 : (la : Int) < (lb : Int) := by omega
  have h2 : ¬ (la : Int) = (lb : Int) := by omega
  rw [fi178]
  simp only [b178, Try.f178, Option.getD, fstC, sndC, bodyC, thnC, elsC]
  simp (maxSteps := 1000000) (disch := omega) [eK178_0_0, h2]
theorem be178g (a b : List Nat) (la lb : Nat) (h : lb < la) (σ : St) : exI TT (FI.of Try.f178 (TT.an 178)) [.code b178] (paramsE 0 [.lst la (dgs .i64 a), .lst lb (dgs .i64 b)]) σ = some (.int .i64 1, σ) := by
  have h1 : (lb : Int) < (la : Int) := by omega
  have h2 : ¬ (la : Int) = (lb : Int) := by omega
  rw [fi178]
  simp only [b178, Try.f178, Option.getD, fstC, sndC, bodyC, thnC, elsC]
  simp (maxSteps := 1000000) (disch := omega) [eK178_0_0, h2]
theorem be178e (a b : List Nat) (la : Nat) (hw : wrapA .i64 ((la : Int) - 1) = (la : Int) - 1) (σ : St) : exI TT (FI.of Try.f178 (TT.an 178)) [.code b178] (paramsE 0 [.lst la (dgs .i64 a), .lst la (dgs .i64 b)]) σ = exI TT (FI.of Try.f178 (TT.an 178)) K178_0 [(0, .lst la (dgs .i64 a)), (1, .lst la (dgs .i64 b)), (5, .int .i64 ((la : Int) - 1))] σ := by
  rw [fi178]
  simp only [b178, Try.f178, Option.getD, fstC, sndC, bodyC, thnC, elsC]
  simp (maxSteps := 1000000) (disch := omega) [eK178_0_0, hw]
  rfl
def cmpN (a b : Nat) : Int := if a < b then -1 else if b < a then 1 else 0
theorem l178 (a b : List Nat) (la : Nat) (ha : la = a.length) (hb : la = b.length) (da : Dg 1073741824 a) (db : Dg 1073741824 b) (hs : la < 1000000000000) (σ : St) : ∀ m, m ≤ la → (∀ j, m ≤ j → j < la → at1 a j = at1 b j) →
    exI TT (FI.of Try.f178 (TT.an 178)) K178_0 [(0, .lst la (dgs .i64 a)), (1, .lst la (dgs .i64 b)), (5, .int .i64 ((m : Int) - 1))] σ = some (.int .i64 (cmpN (val 1073741824 a) (val 1073741824 b)), σ) := by
  intro m
  induction m with
  | zero =>
    intro hm he
    have : a = b := by
      apply List.ext_getElem (by omega)
      intro i h1 h2
      have := he i (by omega) (by omega)
      simpa [at1, h1, h2] using this
    subst this
    have : cmpN (val 1073741824 a) (val 1073741824 a) = 0 := by simp [cmpN]
    rw [this]
    exact en178 a a la la σ
  | succ m ih =>
    intro hm he
    have hc : ((m + 1 : Nat) : Int) - 1 = (m : Int) := by omega
    rw [hc]
    have r1 := fun σ : St => lp_dg (σ := σ) (k := .i64) (l := a) (i := m) (by omega)
    have r2 := fun σ : St => lp_dg (σ := σ) (k := .i64) (l := b) (i := m) (by omega)
    rcases Nat.lt_trichotomy (at1 a m) (at1 b m) with hlt | heq | hgt
    · have := cmp_top (B := 1073741824) (by decide) (by omega) da db m (by omega) (fun j h1 h2 => he j (by omega) (by omega)) hlt
      rw [cmpN, if_pos this]
      exact s178l a b la la m _ _ σ (by omega) (by omega) r1 r2 hlt
    · rw [← ih (by omega) (fun j h1 h2 => by
        by_cases e : j = m
        · rw [e]; exact heq
        · exact he j (by omega) h2)]
      rw [← heq] at r2
      exact s178e a b la la m _ σ (by omega) (by omega) r1 r2 (wrapA_id (by omega) (by omega))
    · have := cmp_top (B := 1073741824) (by decide) (by omega) db da m (by omega) (fun j h1 h2 => (he j (by omega) (by omega)).symm) hgt
      rw [cmpN, if_neg (by omega), if_pos this]
      exact s178g a b la la m _ _ σ (by omega) (by omega) r1 r2 hgt
theorem v178 (a b : Nat) (ha : (dg 1073741824 a).length < 1000000000000) (hb : (dg 1073741824 b).length < 1000000000000) : FnV TT 178 [SB a, SB b] (.int .i64 (cmpN a b)) := by
  refine FnV.mk (c := b178) fn178 rfl md178 ⟨⟨[], 0⟩, ?_⟩ (fun _ => rfl) rfl
  simp only [SB]
  rcases Nat.lt_trichotomy (dg 1073741824 a).length (dg 1073741824 b).length with h | h | h
  · have := dg_len_lt (B := 1073741824) (by decide) h
    rw [cmpN, if_pos this]
    exact be178l _ _ _ _ h _
  · have hk := l178 (dg 1073741824 a) (dg 1073741824 b) (dg 1073741824 a).length rfl h (dg_Dg (by decide) a) (dg_Dg (by decide) b) ha ⟨[], 0⟩ _ (Nat.le_refl _) (fun j h1 h2 => by omega)
    rw [val_dg (by decide), val_dg (by decide)] at hk
    rw [← hk, ← h]
    exact be178e _ _ _ (wrapA_id (by omega) (by omega)) _
  · have := dg_len_lt (B := 1073741824) (by decide) h
    rw [cmpN, if_neg (by omega), if_pos this]
    exact be178g _ _ _ _ h _

noncomputable def b179 : Code := Try.f179.body.getD .skip
noncomputable def B179_0 : Code := (bodyC (bodyC (sndC (fstC (sndC (sndC (sndC b179)))))))
noncomputable def K179_0 : List It := .lp B179_0 :: .blk 0 :: .code (sndC (sndC (sndC (sndC b179)))) :: []
theorem xl179_0 {fi : FI} {env : Env} {σ : St} : exI TT fi K179_0 env σ = exI TT fi (.code B179_0 :: K179_0) env σ := by unfold K179_0; exact xI_lp
noncomputable def R179_0_0 : List It := .code (sndC (sndC (sndC (sndC b179)))) :: []
theorem eK179_0_0 : exitA 0 K179_0 = some R179_0_0 := rfl
theorem s179b (a b : List Nat) (la lb r n c i x y t0 t d r2_ n2 q : Nat) (σ σ1 σ2 : St) (ha : i < la) (hb : i < lb) (r1 : ∀ σ : St, cellsAt σ (.lp (dgs .i64 a) i) 1 = some [.int .i64 (x : Int)]) (r2 : ∀ σ : St, cellsAt σ (.lp (dgs .i64 b) i) 1 = some [.int .i64 (y : Int)]) (w1 : wrapA .i64 ((c : Int) + (x : Int)) = (t0 : Int)) (w2 : wrapA .i64 ((t0 : Int) + (y : Int)) = (t : Int)) (c1 : bitsA .and .i64 (t : Int) 1073741823 = some (.int .i64 (d : Int))) (c2 : buildSliceA TT σ 97 1 [(0, .int .i64 (d : Int))] = some (.sl σ.n 0 1 1, σ1)) (c3 : appendA TT σ1 97 97 (.sl r 0 n n) (.sl σ.n 0 1 1) = some (.sl r2_ 0 n2 n2, σ2)) (c4 : shrA (t : Int) (min 30 IntKind.i64.bits) = (q : Int)) (hw : wrapA .i64 ((i : Int) + 1) = (i : Int) + 1) :
    exI TT (FI.of Try.f179 (TT.an 179)) K179_0 [(0, .lst la (dgs .i64 a)), (1, .lst lb (dgs .i64 b)), (5, .sl r 0 n n), (6, .int .i64 c), (7, .int .i64 i)] σ = exI TT (FI.of Try.f179 (TT.an 179)) K179_0 [(0, .lst la (dgs .i64 a)), (1, .lst lb (dgs .i64 b)), (5, .sl r2_ 0 n2 n2), (6, .int .i64 q), (7, .int .i64 ((i : Int) + 1))] σ2 := by
  skip
  rw [fi179]
  conv => lhs; rw [xl179_0]
  simp only [B179_0, b179, Try.f179, Option.getD, fstC, sndC, bodyC, thnC, elsC]
  simp (maxSteps := 1000000) (disch := omega) [eK179_0_0, r1, r2, w1, w2, c1, c2, c3, c4, hw]

theorem s179a (a b : List Nat) (la lb r n c i x y t0 t d r2_ n2 q : Nat) (σ σ1 σ2 : St) (ha : i < la) (hb : lb ≤ i) (r1 : ∀ σ : St, cellsAt σ (.lp (dgs .i64 a) i) 1 = some [.int .i64 (x : Int)]) (w1 : wrapA .i64 ((c : Int) + (x : Int)) = (t : Int)) (c1 : bitsA .and .i64 (t : Int) 1073741823 = some (.int .i64 (d : Int))) (c2 : buildSliceA TT σ 97 1 [(0, .int .i64 (d : Int))] = some (.sl σ.n 0 1 1, σ1)) (c3 : appendA TT σ1 97 97 (.sl r 0 n n) (.sl σ.n 0 1 1) = some (.sl r2_ 0 n2 n2, σ2)) (c4 : shrA (t : Int) (min 30 IntKind.i64.bits) = (q : Int)) (hw : wrapA .i64 ((i : Int) + 1) = (i : Int) + 1) :
    exI TT (FI.of Try.f179 (TT.an 179)) K179_0 [(0, .lst la (dgs .i64 a)), (1, .lst lb (dgs .i64 b)), (5, .sl r 0 n n), (6, .int .i64 c), (7, .int .i64 i)] σ = exI TT (FI.of Try.f179 (TT.an 179)) K179_0 [(0, .lst la (dgs .i64 a)), (1, .lst lb (dgs .i64 b)), (5, .sl r2_ 0 n2 n2), (6, .int .i64 q), (7, .int .i64 ((i : Int) + 1))] σ2 := by
  skip
  rw [fi179]
  conv => lhs; rw [xl179_0]
  simp only [B179_0, b179, Try.f179, Option.getD, fstC, sndC, bodyC, thnC, elsC]
  simp (maxSteps := 1000000) (disch := omega) [eK179_0_0, r1, w1, c1, c2, c3, c4, hw]

theorem s179c (a b : List Nat) (la lb r n c i x y t0 t d r2_ n2 q : Nat) (σ σ1 σ2 : St) (ha : la ≤ i) (hb : i < lb) (r2 : ∀ σ : St, cellsAt σ (.lp (dgs .i64 b) i) 1 = some [.int .i64 (y : Int)]) (w2 : wrapA .i64 ((c : Int) + (y : Int)) = (t : Int)) (c1 : bitsA .and .i64 (t : Int) 1073741823 = some (.int .i64 (d : Int))) (c2 : buildSliceA TT σ 97 1 [(0, .int .i64 (d : Int))] = some (.sl σ.n 0 1 1, σ1)) (c3 : appendA TT σ1 97 97 (.sl r 0 n n) (.sl σ.n 0 1 1) = some (.sl r2_ 0 n2 n2, σ2)) (c4 : shrA (t : Int) (min 30 IntKind.i64.bits) = (q : Int)) (hw : wrapA .i64 ((i : Int) + 1) = (i : Int) + 1) :
    exI TT (FI.of Try.f179 (TT.an 179)) K179_0 [(0, .lst la (dgs .i64 a)), (1, .lst lb (dgs .i64 b)), (5, .sl r 0 n n), (6, .int .i64 c), (7, .int .i64 i)] σ = exI TT (FI.of Try.f179 (TT.an 179)) K179_0 [(0, .lst la (dgs .i64 a)), (1, .lst lb (dgs .i64 b)), (5, .sl r2_ 0 n2 n2), (6, .int .i64 q), (7, .int .i64 ((i : Int) + 1))] σ2 := by
  skip
  rw [fi179]
  conv => lhs; rw [xl179_0]
  simp only [B179_0, b179, Try.f179, Option.getD, fstC, sndC, bodyC, thnC, elsC]
  simp (maxSteps := 1000000) (disch := omega) [eK179_0_0, r2, w2, c1, c2, c3, c4, hw]

theorem s179z (a b : List Nat) (la lb r n c i x y t0 t d r2_ n2 q : Nat) (σ σ1 σ2 : St) (ha : la ≤ i) (hb : lb ≤ i) (hc : 0 < c) (ht : c = t) (c1 : bitsA .and .i64 (t : Int) 1073741823 = some (.int .i64 (d : Int))) (c2 : buildSliceA TT σ 97 1 [(0, .int .i64 (d : Int))] = some (.sl σ.n 0 1 1, σ1)) (c3 : appendA TT σ1 97 97 (.sl r 0 n n) (.sl σ.n 0 1 1) = some (.sl r2_ 0 n2 n2, σ2)) (c4 : shrA (t : Int) (min 30 IntKind.i64.bits) = (q : Int)) (hw : wrapA .i64 ((i : Int) + 1) = (i : Int) + 1) :
    exI TT (FI.of Try.f179 (TT.an 179)) K179_0 [(0, .lst la (dgs .i64 a)), (1, .lst lb (dgs .i64 b)), (5, .sl r 0 n n), (6, .int .i64 c), (7, .int .i64 i)] σ = exI TT (FI.of Try.f179 (TT.an 179)) K179_0 [(0, .lst la (dgs .i64 a)), (1, .lst lb (dgs .i64 b)), (5, .sl r2_ 0 n2 n2), (6, .int .i64 q), (7, .int .i64 ((i : Int) + 1))] σ2 := by
  subst ht
  rw [fi179]
  conv => lhs; rw [xl179_0]
  simp only [B179_0, b179, Try.f179, Option.getD, fstC, sndC, bodyC, thnC, elsC]
  simp (maxSteps := 1000000) (disch := omega) [eK179_0_0, c1, c2, c3, c4, hw]

theorem en179 (a b : List Nat) (la lb r n i : Nat) (σ : St) (ha : la ≤ i) (hb : lb ≤ i) : exI TT (FI.of Try.f179 (TT.an 179)) K179_0 [(0, .lst la (dgs .i64 a)), (1, .lst lb (dgs .i64 b)), (5, .sl r 0 n n), (6, .int .i64 0), (7, .int .i64 i)] σ = some (.sl r 0 n n, σ) := by
  rw [fi179, xl179_0]
  simp only [B179_0, b179, Try.f179, Option.getD, fstC, sndC, bodyC, thnC, elsC]
  simp (maxSteps := 1000000) (disch := omega) [eK179_0_0]
  simp only [R179_0_0, b179, Try.f179, Option.getD, fstC, sndC, bodyC, thnC, elsC]
  simp (maxSteps := 1000000) (disch := omega) [eK179_0_0]
theorem be179 (a b : List Nat) (la lb : Nat) : exI TT (FI.of Try.f179 (TT.an 179)) [.code b179] (paramsE 0 [.lst la (dgs .i64 a), .lst lb (dgs .i64 b)]) ⟨[], 0⟩ = exI TT (FI.of Try.f179 (TT.an 179)) K179_0 [(0, .lst la (dgs .i64 a)), (1, .lst lb (dgs .i64 b)), (5, .sl 0 0 0 0), (6, .int .i64 0), (7, .int .i64 0)] ((⟨[], 0⟩ : St).push ⟨dgs .i64 [], 1, false⟩) := by
  have hb := build_dgs0 (T := TT) (σ := ⟨[], 0⟩) (st := 97) (k := .i64) ty97 ty2
  rw [fi179]
  simp only [b179, Try.f179, Option.getD, fstC, sndC, bodyC, thnC, elsC]
  simp (maxSteps := 1000000) (disch := omega) [eK179_0_0, hb]
  rfl
theorem l179 (a b : List Nat) (la lb : Nat) (ha : la = a.length) (hb : lb = b.length) (da : Dg 1073741824 a) (db : Dg 1073741824 b) (hs : la < 100000000000) (hs2 : lb < 100000000000) : ∀ (m i c r : Nat) (pre : List Nat) (σ : St), i + m = max la lb → c ≤ 1 → pre.length = i → RowD σ r .i64 pre →
    ∃ r' σ', exI TT (FI.of Try.f179 (TT.an 179)) K179_0 [(0, .lst la (dgs .i64 a)), (1, .lst lb (dgs .i64 b)), (5, .sl r 0 i i), (6, .int .i64 c), (7, .int .i64 i)] σ = some (.sl r' 0 (pre ++ (addG 1073741824 a b m i c ++ cy (carG 1073741824 a b m i c))).length (pre ++ (addG 1073741824 a b m i c ++ cy (carG 1073741824 a b m i c))).length, σ') ∧ RowD σ' r' .i64 (pre ++ (addG 1073741824 a b m i c ++ cy (carG 1073741824 a b m i c))) := by
  intro m
  induction m with
  | zero =>
    intro i c r pre σ hi hc hp hr
    simp only [addG, carG, List.nil_append]
    rcases Nat.eq_zero_or_pos c with rfl | hc0
    · rw [show cy 0 = [] from rfl, List.append_nil, hp]
      exact ⟨r, σ, en179 a b la lb r i i σ (by omega) (by omega), hr⟩
    · obtain ⟨σ1, σ2, a1, a2, a3⟩ := ap1 (n := i) (x := c) hr (by omega) (by omega)
      have c1 := and30i (a := c) (by omega)
      rw [Nat.mod_eq_of_lt (by omega)] at c1
      have c4 := shr30 c
      rw [Nat.div_eq_of_lt (by omega)] at c4
      rw [cy_pos hc0]
      refine ⟨σ.n + 1, σ2, ?_, a3⟩
      have h1 := s179z a b la lb r i c i 0 0 0 c c (σ.n + 1) (i + 1) 0 σ σ1 σ2 (by omega) (by omega) hc0 rfl c1 a1 a2 c4 (wrapA_id (by omega) (by omega))
      have h2 := en179 a b la lb (σ.n + 1) (i + 1) (i + 1) σ2 (by omega) (by omega)
      rw [h1, List.length_append, List.length_singleton, hp]
      exact h2
  | succ m ih =>
    intro i c r pre σ hi hc hp hr
    have h1 := at1_lt (B := 1073741824) (by decide) da i
    have h2 := at1_lt (B := 1073741824) (by decide) db i
    obtain ⟨σ1, σ2, a1, a2, a3⟩ := ap1 (n := i) (x := (c + at1 a i + at1 b i) % 1073741824) hr (by omega) (by omega)
    obtain ⟨r', σ', k1, k2⟩ := ih (i + 1) ((c + at1 a i + at1 b i) / 1073741824) (σ.n + 1) (pre ++ [(c + at1 a i + at1 b i) % 1073741824]) σ2 (by omega) (by omega) (by simp [hp]) a3
    have happ : pre ++ (addG 1073741824 a b (m + 1) i c ++ cy (carG 1073741824 a b (m + 1) i c)) = pre ++ [(c + at1 a i + at1 b i) % 1073741824] ++ (addG 1073741824 a b m (i + 1) ((c + at1 a i + at1 b i) / 1073741824) ++ cy (carG 1073741824 a b m (i + 1) ((c + at1 a i + at1 b i) / 1073741824))) := by rw [addG, carG]; simp
    rw [happ]
    refine ⟨r', σ', ?_, k2⟩
    rw [← k1]
    have c1 := and30i (a := c + at1 a i + at1 b i) (by omega)
    have c4 := shr30 (c + at1 a i + at1 b i)
    have hw : wrapA .i64 ((i : Int) + 1) = (i : Int) + 1 := wrapA_id (by omega) (by omega)
    have hi1 : ((i + 1 : Nat) : Int) = (i : Int) + 1 := by omega
    rw [hi1]
    have w1 : wrapA .i64 ((c : Int) + ((at1 a i : Nat) : Int)) = ((c + at1 a i : Nat) : Int) := by rw [wrapA_id (by omega) (by omega)]; omega
    have w2 : wrapA .i64 (((c + at1 a i : Nat) : Int) + ((at1 b i : Nat) : Int)) = ((c + at1 a i + at1 b i : Nat) : Int) := by rw [wrapA_id (by omega) (by omega)]; omega
    by_cases hia : i < la
    · have r1 := fun σ : St => lp_dg (σ := σ) (k := .i64) (l := a) (i := i) (by omega)
      by_cases hib : i < lb
      · have r2 := fun σ : St => lp_dg (σ := σ) (k := .i64) (l := b) (i := i) (by omega)
        exact s179b a b la lb r i c i _ _ _ _ _ _ _ _ σ σ1 σ2 hia hib r1 r2 w1 w2 c1 a1 a2 c4 hw
      · have hz : at1 b i = 0 := at1_out (by omega)
        exact s179a a b la lb r i c i _ 0 0 _ _ _ _ _ σ σ1 σ2 hia (by omega) r1 (by rw [w1]; omega) c1 a1 a2 c4 hw
    · have hz : at1 a i = 0 := at1_out (by omega)
      have r2 := fun σ : St => lp_dg (σ := σ) (k := .i64) (l := b) (i := i) (by omega)
      exact s179c a b la lb r i c i 0 _ 0 _ _ _ _ _ σ σ1 σ2 (by omega) (by omega) r2 (by rw [wrapA_id (by omega) (by omega)]; omega) c1 a1 a2 c4 hw
theorem add_full {a b : List Nat} (da : Dg 1073741824 a) (db : Dg 1073741824 b) (ca : a = dg 1073741824 (val 1073741824 a)) (cb : b = dg 1073741824 (val 1073741824 b)) : addG 1073741824 a b (max a.length b.length) 0 0 ++ cy (carG 1073741824 a b (max a.length b.length) 0 0) = dg 1073741824 (val 1073741824 a + val 1073741824 b) := by
  have h1 := addG_val (B := 1073741824) a b (max a.length b.length) 0 0
  have h2 := carG_le (B := 1073741824) (by decide) da db (max a.length b.length) 0 0 (by decide)
  have h3 := addG_length 1073741824 a b (max a.length b.length) 0 0
  have h4 := addG_Dg (B := 1073741824) (by decide) a b (max a.length b.length) 0 0
  rw [List.drop_zero, List.drop_zero, List.take_of_length_le (Nat.le_max_left _ _), List.take_of_length_le (Nat.le_max_right _ _), Nat.zero_add] at h1
  have m1 := dg_mono (B := 1073741824) (by decide) (Nat.le_add_right (val 1073741824 a) (val 1073741824 b))
  have m2 := dg_mono (B := 1073741824) (by decide) (Nat.le_add_left (val 1073741824 b) (val 1073741824 a))
  rw [← ca] at m1
  rw [← cb] at m2
  generalize addG 1073741824 a b (max a.length b.length) 0 0 = L at *
  generalize carG 1073741824 a b (max a.length b.length) 0 0 = c at *
  by_cases hc : c = 0
  · subst hc
    rw [show cy 0 = [] from rfl, List.append_nil]
    rw [Nat.mul_zero, Nat.add_zero] at h1
    rw [← h1]
    exact full_dg (by decide) h4 (by rw [h1, h3]; exact Nat.max_le.2 ⟨m1, m2⟩)
  · obtain rfl : c = 1 := by omega
    rw [show cy 1 = [1] from rfl]
    have hv : val 1073741824 (L ++ [1]) = val 1073741824 a + val 1073741824 b := by rw [val_app, h3, ← h1]; simp [val]
    rw [← hv]
    refine full_dg (by decide) (Dg_app h4 fun x hx => by simp at hx; omega) ?_
    have := dg_ge (B := 1073741824) (k := max a.length b.length) (n := val 1073741824 (L ++ [1])) (by decide) (by rw [hv, ← h1]; omega)
    rw [List.length_append, h3]
    exact this
theorem v179 (a b : Nat) (ha : (dg 1073741824 a).length < 1000000000) (hb : (dg 1073741824 b).length < 1000000000) : FnF TT 179 [SB a, SB b] (SB (a + b)) := by
  obtain ⟨r', σ', k1, k2⟩ := l179 (dg 1073741824 a) (dg 1073741824 b) _ _ rfl rfl (dg_Dg (by decide) a) (dg_Dg (by decide) b) (by omega) (by omega) (max (dg 1073741824 a).length (dg 1073741824 b).length) 0 0 0 [] ((⟨[], 0⟩ : St).push ⟨dgs .i64 [], 1, false⟩) (by omega) (by decide) rfl RowA.push
  have hf := add_full (dg_Dg (B := 1073741824) (by decide) a) (dg_Dg (B := 1073741824) (by decide) b) (by rw [val_dg (by decide)]) (by rw [val_dg (by decide)])
  rw [val_dg (by decide), val_dg (by decide)] at hf
  rw [List.nil_append, hf] at k1 k2
  exact FnF.mk (c := b179) fn179 rfl md179 ⟨σ', _, by rw [SB, SB, be179]; exact k1, frz_big k2 rfl (Nat.le_refl _)⟩

noncomputable def b180 : Code := Try.f180.body.getD .skip
noncomputable def B180_0 : Code := (bodyC (bodyC (sndC (fstC (sndC (sndC (sndC b180)))))))
noncomputable def K180_0 : List It := .lp B180_0 :: .blk 0 :: .code (sndC (sndC (sndC (sndC b180)))) :: []
theorem xl180_0 {fi : FI} {env : Env} {σ : St} : exI TT fi K180_0 env σ = exI TT fi (.code B180_0 :: K180_0) env σ := by unfold K180_0; exact xI_lp
noncomputable def R180_0_0 : List It := .code (sndC (sndC (sndC (sndC b180)))) :: []
theorem eK180_0_0 : exitA 0 K180_0 = some R180_0_0 := rfl
noncomputable def B180_1 : Code := (bodyC (bodyC (fstC (sndC (sndC (sndC (sndC b180)))))))
noncomputable def K180_1 : List It := .lp B180_1 :: .blk 2 :: .code (sndC (sndC (sndC (sndC (sndC b180))))) :: []
theorem xl180_1 {fi : FI} {env : Env} {σ : St} : exI TT fi K180_1 env σ = exI TT fi (.code B180_1 :: K180_1) env σ := by unfold K180_1; exact xI_lp
noncomputable def R180_1_2 : List It := .code (sndC (sndC (sndC (sndC (sndC b180))))) :: []
theorem eK180_1_2 : exitA 2 K180_1 = some R180_1_2 := rfl
theorem tz180 (env : Env) (b n c : Nat) (h5 : lk env 5 = some (.sl b 0 n c)) (σ : St) (x : Nat) (n1 : Nat) (hn : n = n1 + 1) (hc : n ≤ c) (hw : wrapA .i64 ((n : Int) - 1) = (n1 : Int)) (r1 : cellsAt σ (.ptr b n1) 1 = some [.int .i64 0]) (hs : sliceA TT σ 97 (.sl b 0 n c) none (some (.int .i64 n1)) = some (.sl b 0 n1 c)) :
    exI TT (FI.of Try.f180 (TT.an 180)) K180_1 env σ = exI TT (FI.of Try.f180 (TT.an 180)) K180_1 [(5, .sl b 0 n1 c)] σ := by
  have h0 : (0 : Int) < (n : Int) := by omega
  have h1 : n1 < n := by omega
  rw [fi180]
  conv => lhs; rw [xl180_1]
  simp only [B180_1, b180, Try.f180, Option.getD, fstC, sndC, bodyC, thnC, elsC]
  simp (maxSteps := 1000000) (disch := omega) [eK180_0_0, eK180_1_2, h5, hw, r1, hs]
theorem tn180 (env : Env) (b n c x n1 : Nat) (h5 : lk env 5 = some (.sl b 0 n c)) (σ : St) (hn : n = n1 + 1) (hc : n ≤ c) (hw : wrapA .i64 ((n : Int) - 1) = (n1 : Int)) (r1 : cellsAt σ (.ptr b n1) 1 = some [.int .i64 (x : Int)]) (hx : 0 < x) :
    exI TT (FI.of Try.f180 (TT.an 180)) K180_1 env σ = some (.sl b 0 n c, σ) := by
  have h0 : (0 : Int) < (n : Int) := by omega
  have h1 : n1 < n := by omega
  have hx0 : ¬ (x : Int) = 0 := by omega
  rw [fi180, xl180_1]
  simp only [B180_1, b180, Try.f180, Option.getD, fstC, sndC, bodyC, thnC, elsC]
  simp (maxSteps := 1000000) (disch := omega) [eK180_0_0, eK180_1_2, h5, hw, r1, hx0]
  simp only [R180_1_2, b180, Try.f180, Option.getD, fstC, sndC, bodyC, thnC, elsC]
  simp (maxSteps := 1000000) (disch := omega) [eK180_0_0, eK180_1_2]
theorem te180 (env : Env) (b c : Nat) (h5 : lk env 5 = some (.sl b 0 0 c)) (σ : St) : exI TT (FI.of Try.f180 (TT.an 180)) K180_1 env σ = some (.sl b 0 0 c, σ) := by
  rw [fi180, xl180_1]
  simp only [B180_1, b180, Try.f180, Option.getD, fstC, sndC, bodyC, thnC, elsC]
  simp (maxSteps := 1000000) (disch := omega) [eK180_0_0, eK180_1_2, h5]
  simp only [R180_1_2, b180, Try.f180, Option.getD, fstC, sndC, bodyC, thnC, elsC]
  simp (maxSteps := 1000000) (disch := omega) [eK180_0_0, eK180_1_2]
theorem tl180 (l : List Nat) (b c : Nat) (σ : St) (hs : l.length ≤ 100000000000) (hc : l.length ≤ c) (hr : RowD σ b .i64 l) : ∀ n (env : Env), lk env 5 = some (.sl b 0 n c) → n ≤ l.length → trimL (l.take n) = trimL l → exI TT (FI.of Try.f180 (TT.an 180)) K180_1 env σ = some (.sl b 0 (trimL l).length c, σ) := by
  intro n
  induction n with
  | zero =>
    intro env h5 hn ht
    have e : trimL l = [] := by rw [← ht]; rfl
    rw [e]
    exact te180 env b c h5 σ
  | succ n ih =>
    intro env h5 hn ht
    rw [trimL_step (by omega)] at ht
    have hrd := hr.rd (i := n) (by omega)
    have hw : wrapA .i64 (((n + 1 : Nat) : Int) - 1) = (n : Int) := by rw [wrapA_id (by omega) (by omega)]; omega
    by_cases h0 : at1 l n = 0
    · rw [if_pos h0] at ht
      rw [← ih [(5, .sl b 0 n c)] rfl (by omega) ht]
      rw [h0] at hrd
      refine tz180 env b (n + 1) c h5 σ 0 n rfl (by omega) hw hrd ?_
      simp only [sliceA, ty97, ty2, boundA]
      have e1 : (0 : Int) ≤ (n : Int) ∧ (n : Int) ≤ (c : Int) := by omega
      simp [e1]
    · rw [if_neg h0] at ht
      have e : (trimL l).length = n + 1 := by rw [← ht, List.length_take]; omega
      rw [e]
      exact tn180 env b (n + 1) c (at1 l n) n h5 σ rfl (by omega) hw hrd (by omega)
theorem tr180 (l : List Nat) (b c : Nat) (σ : St) (hs : l.length ≤ 100000000000) (hc : l.length ≤ c) (hd : Dg 1073741824 l) (hr : RowD σ b .i64 l) (env : Env) (h5 : lk env 5 = some (.sl b 0 l.length c)) : ∃ v, exI TT (FI.of Try.f180 (TT.an 180)) K180_1 env σ = some (v, σ) ∧ frzV σ frzDepth v = some (SB (val 1073741824 l)) := by
  refine ⟨_, tl180 l b c σ hs hc hr l.length env h5 (Nat.le_refl _) (by rw [List.take_of_length_le (Nat.le_refl _)]), ?_⟩
  obtain ⟨t1, t2, _⟩ := trimL_take l
  have := hr.frz (d := 4) (n := (trimL l).length) (c := c) t2 (by omega)
  rw [← t1, trim_dg (by decide) hd] at this
  rw [trim_dg (by decide) hd]
  exact this

theorem s180bn (a b : List Nat) (la lb r n c i x y d r2_ n2 : Nat) (t0 t : Int) (σ σ1 σ2 : St) (hi : i < la) (r1 : ∀ σ : St, cellsAt σ (.lp (dgs .i64 a) i) 1 = some [.int .i64 (x : Int)]) (w1 : wrapA .i64 ((x : Int) - (c : Int)) = t0) (hb : i < lb) (r2 : ∀ σ : St, cellsAt σ (.lp (dgs .i64 b) i) 1 = some [.int .i64 (y : Int)]) (w2 : wrapA .i64 (t0 - (y : Int)) = t) (hneg : t < 0) (w3 : wrapA .i64 (t + 1073741824) = (d : Int)) (c2 : buildSliceA TT σ 97 1 [(0, .int .i64 (d : Int))] = some (.sl σ.n 0 1 1, σ1)) (c3 : appendA TT σ1 97 97 (.sl r 0 n n) (.sl σ.n 0 1 1) = some (.sl r2_ 0 n2 n2, σ2)) (hw : wrapA .i64 ((i : Int) + 1) = (i : Int) + 1) :
    exI TT (FI.of Try.f180 (TT.an 180)) K180_0 [(0, .lst la (dgs .i64 a)), (1, .lst lb (dgs .i64 b)), (5, .sl r 0 n n), (6, .int .i64 c), (7, .int .i64 i)] σ = exI TT (FI.of Try.f180 (TT.an 180)) K180_0 [(0, .lst la (dgs .i64 a)), (1, .lst lb (dgs .i64 b)), (5, .sl r2_ 0 n2 n2), (6, .int .i64 1), (7, .int .i64 ((i : Int) + 1))] σ2 := by
  skip
  skip
  rw [fi180]
  conv => lhs; rw [xl180_0]
  simp only [B180_0, b180, Try.f180, Option.getD, fstC, sndC, bodyC, thnC, elsC]
  simp (maxSteps := 1000000) (disch := omega) [eK180_0_0, eK180_1_2, r1, w1, r2, w2, w3, c2, c3, hw]

theorem s180bp (a b : List Nat) (la lb r n c i x y d r2_ n2 : Nat) (t0 t : Int) (σ σ1 σ2 : St) (hi : i < la) (r1 : ∀ σ : St, cellsAt σ (.lp (dgs .i64 a) i) 1 = some [.int .i64 (x : Int)]) (w1 : wrapA .i64 ((x : Int) - (c : Int)) = t0) (hb : i < lb) (r2 : ∀ σ : St, cellsAt σ (.lp (dgs .i64 b) i) 1 = some [.int .i64 (y : Int)]) (w2 : wrapA .i64 (t0 - (y : Int)) = t) (hneg : 0 ≤ t) (ht2 : t = (d : Int)) (c2 : buildSliceA TT σ 97 1 [(0, .int .i64 (d : Int))] = some (.sl σ.n 0 1 1, σ1)) (c3 : appendA TT σ1 97 97 (.sl r 0 n n) (.sl σ.n 0 1 1) = some (.sl r2_ 0 n2 n2, σ2)) (hw : wrapA .i64 ((i : Int) + 1) = (i : Int) + 1) :
    exI TT (FI.of Try.f180 (TT.an 180)) K180_0 [(0, .lst la (dgs .i64 a)), (1, .lst lb (dgs .i64 b)), (5, .sl r 0 n n), (6, .int .i64 c), (7, .int .i64 i)] σ = exI TT (FI.of Try.f180 (TT.an 180)) K180_0 [(0, .lst la (dgs .i64 a)), (1, .lst lb (dgs .i64 b)), (5, .sl r2_ 0 n2 n2), (6, .int .i64 0), (7, .int .i64 ((i : Int) + 1))] σ2 := by
  skip
  subst ht2
  rw [fi180]
  conv => lhs; rw [xl180_0]
  simp only [B180_0, b180, Try.f180, Option.getD, fstC, sndC, bodyC, thnC, elsC]
  simp (maxSteps := 1000000) (disch := omega) [eK180_0_0, eK180_1_2, r1, w1, r2, w2, c2, c3, hw]

theorem s180an (a b : List Nat) (la lb r n c i x y d r2_ n2 : Nat) (t0 t : Int) (σ σ1 σ2 : St) (hi : i < la) (r1 : ∀ σ : St, cellsAt σ (.lp (dgs .i64 a) i) 1 = some [.int .i64 (x : Int)]) (w1 : wrapA .i64 ((x : Int) - (c : Int)) = t0) (hb : lb ≤ i) (ht : t0 = t) (hneg : t < 0) (w3 : wrapA .i64 (t + 1073741824) = (d : Int)) (c2 : buildSliceA TT σ 97 1 [(0, .int .i64 (d : Int))] = some (.sl σ.n 0 1 1, σ1)) (c3 : appendA TT σ1 97 97 (.sl r 0 n n) (.sl σ.n 0 1 1) = some (.sl r2_ 0 n2 n2, σ2)) (hw : wrapA .i64 ((i : Int) + 1) = (i : Int) + 1) :
    exI TT (FI.of Try.f180 (TT.an 180)) K180_0 [(0, .lst la (dgs .i64 a)), (1, .lst lb (dgs .i64 b)), (5, .sl r 0 n n), (6, .int .i64 c), (7, .int .i64 i)] σ = exI TT (FI.of Try.f180 (TT.an 180)) K180_0 [(0, .lst la (dgs .i64 a)), (1, .lst lb (dgs .i64 b)), (5, .sl r2_ 0 n2 n2), (6, .int .i64 1), (7, .int .i64 ((i : Int) + 1))] σ2 := by
  subst ht
  skip
  rw [fi180]
  conv => lhs; rw [xl180_0]
  simp only [B180_0, b180, Try.f180, Option.getD, fstC, sndC, bodyC, thnC, elsC]
  simp (maxSteps := 1000000) (disch := omega) [eK180_0_0, eK180_1_2, r1, w1, w3, c2, c3, hw]

theorem s180ap (a b : List Nat) (la lb r n c i x y d r2_ n2 : Nat) (t0 t : Int) (σ σ1 σ2 : St) (hi : i < la) (r1 : ∀ σ : St, cellsAt σ (.lp (dgs .i64 a) i) 1 = some [.int .i64 (x : Int)]) (w1 : wrapA .i64 ((x : Int) - (c : Int)) = t0) (hb : lb ≤ i) (ht : t0 = t) (hneg : 0 ≤ t) (ht2 : t = (d : Int)) (c2 : buildSliceA TT σ 97 1 [(0, .int .i64 (d : Int))] = some (.sl σ.n 0 1 1, σ1)) (c3 : appendA TT σ1 97 97 (.sl r 0 n n) (.sl σ.n 0 1 1) = some (.sl r2_ 0 n2 n2, σ2)) (hw : wrapA .i64 ((i : Int) + 1) = (i : Int) + 1) :
    exI TT (FI.of Try.f180 (TT.an 180)) K180_0 [(0, .lst la (dgs .i64 a)), (1, .lst lb (dgs .i64 b)), (5, .sl r 0 n n), (6, .int .i64 c), (7, .int .i64 i)] σ = exI TT (FI.of Try.f180 (TT.an 180)) K180_0 [(0, .lst la (dgs .i64 a)), (1, .lst lb (dgs .i64 b)), (5, .sl r2_ 0 n2 n2), (6, .int .i64 0), (7, .int .i64 ((i : Int) + 1))] σ2 := by
  subst ht
  subst ht2
  rw [fi180]
  conv => lhs; rw [xl180_0]
  simp only [B180_0, b180, Try.f180, Option.getD, fstC, sndC, bodyC, thnC, elsC]
  simp (maxSteps := 1000000) (disch := omega) [eK180_0_0, eK180_1_2, r1, w1, c2, c3, hw]

theorem en180 (a b : List Nat) (la lb r n c i : Nat) (σ : St) (ha : la ≤ i) : exI TT (FI.of Try.f180 (TT.an 180)) K180_0 [(0, .lst la (dgs .i64 a)), (1, .lst lb (dgs .i64 b)), (5, .sl r 0 n n), (6, .int .i64 c), (7, .int .i64 i)] σ = exI TT (FI.of Try.f180 (TT.an 180)) K180_1 [(0, .lst la (dgs .i64 a)), (1, .lst lb (dgs .i64 b)), (5, .sl r 0 n n), (6, .int .i64 c), (7, .int .i64 i) , (13, .bool false)] σ := by
  rw [fi180]
  conv => lhs; rw [xl180_0]
  simp only [B180_0, b180, Try.f180, Option.getD, fstC, sndC, bodyC, thnC, elsC]
  simp (maxSteps := 1000000) (disch := omega) [eK180_0_0, eK180_1_2]
  simp only [R180_0_0, b180, Try.f180, Option.getD, fstC, sndC, bodyC, thnC, elsC]
  simp (maxSteps := 1000000) (disch := omega) [eK180_0_0, eK180_1_2]
  rfl
theorem be180 (a b : List Nat) (la lb : Nat) : exI TT (FI.of Try.f180 (TT.an 180)) [.code b180] (paramsE 0 [.lst la (dgs .i64 a), .lst lb (dgs .i64 b)]) ⟨[], 0⟩ = exI TT (FI.of Try.f180 (TT.an 180)) K180_0 [(0, .lst la (dgs .i64 a)), (1, .lst lb (dgs .i64 b)), (5, .sl 0 0 0 0), (6, .int .i64 0), (7, .int .i64 0)] ((⟨[], 0⟩ : St).push ⟨dgs .i64 [], 1, false⟩) := by
  have hb := build_dgs0 (T := TT) (σ := ⟨[], 0⟩) (st := 97) (k := .i64) ty97 ty2
  rw [fi180]
  simp only [b180, Try.f180, Option.getD, fstC, sndC, bodyC, thnC, elsC]
  simp (maxSteps := 1000000) (disch := omega) [eK180_0_0, eK180_1_2, hb]
  rfl
theorem l180 (a b : List Nat) (la lb : Nat) (ha : la = a.length) (hb : lb = b.length) (da : Dg 1073741824 a) (db : Dg 1073741824 b) (hs : la < 100000000000) : ∀ (m i c r : Nat) (pre : List Nat) (σ : St), i + m = la → c ≤ 1 → pre.length = i → Dg 1073741824 pre → RowD σ r .i64 pre →
    ∃ v σ', exI TT (FI.of Try.f180 (TT.an 180)) K180_0 [(0, .lst la (dgs .i64 a)), (1, .lst lb (dgs .i64 b)), (5, .sl r 0 i i), (6, .int .i64 c), (7, .int .i64 i)] σ = some (v, σ') ∧ frzV σ' frzDepth v = some (SB (val 1073741824 (pre ++ subG 1073741824 a b m i c))) := by
  intro m
  induction m with
  | zero =>
    intro i c r pre σ hi hc hp hd hr
    obtain ⟨v, h1, h2⟩ := tr180 pre r i σ (by omega) (by omega) hd hr [(0, .lst la (dgs .i64 a)), (1, .lst lb (dgs .i64 b)), (5, .sl r 0 i i), (6, .int .i64 c), (7, .int .i64 i), (13, .bool false)] (by rw [hp]; rfl)
    rw [subG, List.append_nil]
    refine ⟨v, σ, ?_, h2⟩
    rw [← h1]
    exact en180 a b la lb r i c i σ (by omega)
  | succ m ih =>
    intro i c r pre σ hi hc hp hd hr
    have h1 := at1_lt (B := 1073741824) (by decide) da i
    have h2 := at1_lt (B := 1073741824) (by decide) db i
    have r1 := fun σ : St => lp_dg (σ := σ) (k := .i64) (l := a) (i := i) (by omega)
    have hw : wrapA .i64 ((i : Int) + 1) = (i : Int) + 1 := wrapA_id (by omega) (by omega)
    have hi1 : ((i + 1 : Nat) : Int) = (i : Int) + 1 := by omega
    have w1 : wrapA .i64 (((at1 a i : Nat) : Int) - (c : Int)) = ((at1 a i : Nat) : Int) - (c : Int) := wrapA_id (by omega) (by omega)
    by_cases hlt : at1 a i < c + at1 b i
    · obtain ⟨σ1, σ2, a1, a2, a3⟩ := ap1 (n := i) (x := at1 a i + 1073741824 - c - at1 b i) hr (by omega) (by omega)
      obtain ⟨v, σ', k1, k2⟩ := ih (i + 1) 1 (σ.n + 1) (pre ++ [at1 a i + 1073741824 - c - at1 b i]) σ2 (by omega) (by omega) (by simp [hp]) (Dg_app hd fun y hy => by simp at hy; omega) a3
      have he : pre ++ subG 1073741824 a b (m + 1) i c = pre ++ [at1 a i + 1073741824 - c - at1 b i] ++ subG 1073741824 a b m (i + 1) 1 := by rw [subG, if_pos hlt]; simp
      rw [he]
      refine ⟨v, σ', ?_, k2⟩
      rw [← k1, hi1]
      by_cases hib : i < lb
      · have r2 := fun σ : St => lp_dg (σ := σ) (k := .i64) (l := b) (i := i) (by omega)
        exact s180bn a b la lb r i c i _ _ _ _ _ _ _ σ σ1 σ2 (by omega) r1 w1 hib r2 (wrapA_id (by omega) (by omega)) (by omega) (by rw [wrapA_id (by omega) (by omega)]; omega) a1 a2 hw
      · have hz : at1 b i = 0 := at1_out (by omega)
        exact s180an a b la lb r i c i _ 0 _ _ _ _ _ σ σ1 σ2 (by omega) r1 w1 (by omega) rfl (by omega) (by rw [wrapA_id (by omega) (by omega)]; omega) a1 a2 hw
    · obtain ⟨σ1, σ2, a1, a2, a3⟩ := ap1 (n := i) (x := at1 a i - c - at1 b i) hr (by omega) (by omega)
      obtain ⟨v, σ', k1, k2⟩ := ih (i + 1) 0 (σ.n + 1) (pre ++ [at1 a i - c - at1 b i]) σ2 (by omega) (by omega) (by simp [hp]) (Dg_app hd fun y hy => by simp at hy; omega) a3
      have he : pre ++ subG 1073741824 a b (m + 1) i c = pre ++ [at1 a i - c - at1 b i] ++ subG 1073741824 a b m (i + 1) 0 := by rw [subG, if_neg hlt]; simp
      rw [he]
      refine ⟨v, σ', ?_, k2⟩
      rw [← k1, hi1]
      by_cases hib : i < lb
      · have r2 := fun σ : St => lp_dg (σ := σ) (k := .i64) (l := b) (i := i) (by omega)
        exact s180bp a b la lb r i c i _ _ _ _ _ _ _ σ σ1 σ2 (by omega) r1 w1 hib r2 (wrapA_id (by omega) (by omega)) (by omega) (by omega) a1 a2 hw
      · have hz : at1 b i = 0 := at1_out (by omega)
        exact s180ap a b la lb r i c i _ 0 _ _ _ _ _ σ σ1 σ2 (by omega) r1 w1 (by omega) rfl (by omega) (by omega) a1 a2 hw
theorem v180 (a b : Nat) (h : b ≤ a) (ha : (dg 1073741824 a).length < 10000000000) : FnF TT 180 [SB a, SB b] (SB (a - b)) := by
  have hle := dg_mono (B := 1073741824) (by decide) h
  obtain ⟨v, σ', k1, k2⟩ := l180 (dg 1073741824 a) (dg 1073741824 b) _ _ rfl rfl (dg_Dg (by decide) a) (dg_Dg (by decide) b) (by omega) (dg 1073741824 a).length 0 0 0 [] ((⟨[], 0⟩ : St).push ⟨dgs .i64 [], 1, false⟩) (by omega) (by decide) rfl (fun d hd => by simp at hd) RowA.push
  have hsub := sub_dg (B := 1073741824) (by decide) (dg_Dg (by decide) a) (dg_Dg (by decide) b) hle (by rw [val_dg (by decide), val_dg (by decide)]; exact h)
  rw [val_dg (by decide), val_dg (by decide)] at hsub
  rw [List.nil_append, hsub] at k2
  exact FnF.mk (c := b180) fn180 rfl md180 ⟨σ', _, by rw [SB, SB, be180]; exact k1, k2⟩

noncomputable def b144 : Code := Try.f144.body.getD .skip
noncomputable def B144_0 : Code := (bodyC (bodyC (sndC (fstC (sndC (sndC b144))))))
noncomputable def K144_0 : List It := .lp B144_0 :: .blk 0 :: .code (sndC (sndC (sndC b144))) :: []
theorem xl144_0 {fi : FI} {env : Env} {σ : St} : exI TT fi K144_0 env σ = exI TT fi (.code B144_0 :: K144_0) env σ := by unfold K144_0; exact xI_lp
noncomputable def R144_0_0 : List It := .code (sndC (sndC (sndC b144))) :: []
theorem eK144_0_0 : exitA 0 K144_0 = some R144_0_0 := rfl
noncomputable def B144_1 : Code := (bodyC (bodyC (sndC (sndC (bodyC (fstC (sndC (bodyC (bodyC (sndC (fstC (sndC (sndC b144)))))))))))))
noncomputable def K144_1 : List It := .lp B144_1 :: .blk 2 :: .blk 1 :: .code (sndC (sndC (bodyC (bodyC (sndC (fstC (sndC (sndC b144)))))))) :: K144_0
theorem xl144_1 {fi : FI} {env : Env} {σ : St} : exI TT fi K144_1 env σ = exI TT fi (.code B144_1 :: K144_1) env σ := by unfold K144_1; exact xI_lp
noncomputable def R144_1_2 : List It := .blk 1 :: .code (sndC (sndC (bodyC (bodyC (sndC (fstC (sndC (sndC b144)))))))) :: K144_0
theorem eK144_1_2 : exitA 2 K144_1 = some R144_1_2 := rfl
noncomputable def R144_1_1 : List It := .code (sndC (sndC (bodyC (bodyC (sndC (fstC (sndC (sndC b144)))))))) :: K144_0
theorem eK144_1_1 : exitA 1 K144_1 = some R144_1_1 := rfl
theorem eK144_1_0 : exitA 0 K144_1 = some R144_0_0 := rfl
noncomputable def B144_2 : Code := (bodyC (bodyC (fstC (sndC (sndC (sndC b144))))))
noncomputable def K144_2 : List It := .lp B144_2 :: .blk 4 :: .code (sndC (sndC (sndC (sndC b144)))) :: []
theorem xl144_2 {fi : FI} {env : Env} {σ : St} : exI TT fi K144_2 env σ = exI TT fi (.code B144_2 :: K144_2) env σ := by unfold K144_2; exact xI_lp
noncomputable def R144_2_4 : List It := .code (sndC (sndC (sndC (sndC b144)))) :: []
theorem eK144_2_4 : exitA 4 K144_2 = some R144_2_4 := rfl
theorem tz144 (env : Env) (b n c : Nat) (h5 : lk env 5 = some (.sl b 0 n c)) (σ : St) (x : Nat) (n1 : Nat) (hn : n = n1 + 1) (hc : n ≤ c) (hw : wrapA .i64 ((n : Int) - 1) = (n1 : Int)) (r1 : cellsAt σ (.ptr b n1) 1 = some [.int .i64 0]) (hs : sliceA TT σ 97 (.sl b 0 n c) none (some (.int .i64 n1)) = some (.sl b 0 n1 c)) :
    exI TT (FI.of Try.f144 (TT.an 144)) K144_2 env σ = exI TT (FI.of Try.f144 (TT.an 144)) K144_2 [(5, .sl b 0 n1 c)] σ := by
  have h0 : (0 : Int) < (n : Int) := by omega
  have h1 : n1 < n := by omega
  rw [fi144]
  conv => lhs; rw [xl144_2]
  simp only [B144_2, b144, Try.f144, Option.getD, fstC, sndC, bodyC, thnC, elsC]
  simp (maxSteps := 1000000) (disch := omega) [eK144_0_0, eK144_1_2, eK144_1_1, eK144_1_0, eK144_2_4, h5, hw, r1, hs]
theorem tn144 (env : Env) (b n c x n1 : Nat) (h5 : lk env 5 = some (.sl b 0 n c)) (σ : St) (hn : n = n1 + 1) (hc : n ≤ c) (hw : wrapA .i64 ((n : Int) - 1) = (n1 : Int)) (r1 : cellsAt σ (.ptr b n1) 1 = some [.int .i64 (x : Int)]) (hx : 0 < x) :
    exI TT (FI.of Try.f144 (TT.an 144)) K144_2 env σ = some (.sl b 0 n c, σ) := by
  have h0 : (0 : Int) < (n : Int) := by omega
  have h1 : n1 < n := by omega
  have hx0 : ¬ (x : Int) = 0 := by omega
  rw [fi144, xl144_2]
  simp only [B144_2, b144, Try.f144, Option.getD, fstC, sndC, bodyC, thnC, elsC]
  simp (maxSteps := 1000000) (disch := omega) [eK144_0_0, eK144_1_2, eK144_1_1, eK144_1_0, eK144_2_4, h5, hw, r1, hx0]
  simp only [R144_2_4, b144, Try.f144, Option.getD, fstC, sndC, bodyC, thnC, elsC]
  simp (maxSteps := 1000000) (disch := omega) [eK144_0_0, eK144_1_2, eK144_1_1, eK144_1_0, eK144_2_4]
theorem te144 (env : Env) (b c : Nat) (h5 : lk env 5 = some (.sl b 0 0 c)) (σ : St) : exI TT (FI.of Try.f144 (TT.an 144)) K144_2 env σ = some (.sl b 0 0 c, σ) := by
  rw [fi144, xl144_2]
  simp only [B144_2, b144, Try.f144, Option.getD, fstC, sndC, bodyC, thnC, elsC]
  simp (maxSteps := 1000000) (disch := omega) [eK144_0_0, eK144_1_2, eK144_1_1, eK144_1_0, eK144_2_4, h5]
  simp only [R144_2_4, b144, Try.f144, Option.getD, fstC, sndC, bodyC, thnC, elsC]
  simp (maxSteps := 1000000) (disch := omega) [eK144_0_0, eK144_1_2, eK144_1_1, eK144_1_0, eK144_2_4]
theorem tl144 (l : List Nat) (b c : Nat) (σ : St) (hs : l.length ≤ 100000000000) (hc : l.length ≤ c) (hr : RowD σ b .i64 l) : ∀ n (env : Env), lk env 5 = some (.sl b 0 n c) → n ≤ l.length → trimL (l.take n) = trimL l → exI TT (FI.of Try.f144 (TT.an 144)) K144_2 env σ = some (.sl b 0 (trimL l).length c, σ) := by
  intro n
  induction n with
  | zero =>
    intro env h5 hn ht
    have e : trimL l = [] := by rw [← ht]; rfl
    rw [e]
    exact te144 env b c h5 σ
  | succ n ih =>
    intro env h5 hn ht
    rw [trimL_step (by omega)] at ht
    have hrd := hr.rd (i := n) (by omega)
    have hw : wrapA .i64 (((n + 1 : Nat) : Int) - 1) = (n : Int) := by rw [wrapA_id (by omega) (by omega)]; omega
    by_cases h0 : at1 l n = 0
    · rw [if_pos h0] at ht
      rw [← ih [(5, .sl b 0 n c)] rfl (by omega) ht]
      rw [h0] at hrd
      refine tz144 env b (n + 1) c h5 σ 0 n rfl (by omega) hw hrd ?_
      simp only [sliceA, ty97, ty2, boundA]
      have e1 : (0 : Int) ≤ (n : Int) ∧ (n : Int) ≤ (c : Int) := by omega
      simp [e1]
    · rw [if_neg h0] at ht
      have e : (trimL l).length = n + 1 := by rw [← ht, List.length_take]; omega
      rw [e]
      exact tn144 env b (n + 1) c (at1 l n) n h5 σ rfl (by omega) hw hrd (by omega)
theorem tr144 (l : List Nat) (b c : Nat) (σ : St) (hs : l.length ≤ 100000000000) (hc : l.length ≤ c) (hd : Dg 1073741824 l) (hr : RowD σ b .i64 l) (env : Env) (h5 : lk env 5 = some (.sl b 0 l.length c)) : ∃ v, exI TT (FI.of Try.f144 (TT.an 144)) K144_2 env σ = some (v, σ) ∧ frzV σ frzDepth v = some (SB (val 1073741824 l)) := by
  refine ⟨_, tl144 l b c σ hs hc hr l.length env h5 (Nat.le_refl _) (by rw [List.take_of_length_le (Nat.le_refl _)]), ?_⟩
  obtain ⟨t1, t2, _⟩ := trimL_take l
  have := hr.frz (d := 4) (n := (trimL l).length) (c := c) t2 (by omega)
  rw [← t1, trim_dg (by decide) hd] at this
  rw [trim_dg (by decide) hd]
  exact this

theorem set_self {l : List Nat} {i x : Nat} (h : i < l.length) (hx : at1 l i = x) : l.set i x = l := by
  apply List.ext_getElem (by simp)
  intro j h1 h2
  rw [List.getElem_set]
  split
  · rename_i e; subst e; rw [← hx]; simp [at1, h2]
  · rfl
theorem si144 (a b : List Nat) (la lb r L i c k ik o t0 x y xy t d q : Nat) (σ σ1 : St) (hi : i < la) (hk : k < lb) (hik : ik < L) (w1 : wrapA .i64 ((i : Int) + (k : Int)) = (ik : Int)) (r1 : cellsAt σ (.ptr r ik) 1 = some [.int .i64 (o : Int)]) (w2 : wrapA .i64 ((c : Int) + (o : Int)) = (t0 : Int)) (r2 : ∀ σ : St, cellsAt σ (.lp (dgs .i64 a) i) 1 = some [.int .i64 (x : Int)]) (r3 : ∀ σ : St, cellsAt σ (.lp (dgs .i64 b) k) 1 = some [.int .i64 (y : Int)]) (w3 : wrapA .i64 ((x : Int) * (y : Int)) = (xy : Int)) (w4 : wrapA .i64 ((t0 : Int) + (xy : Int)) = (t : Int))
    (c1 : bitsA .and .i64 (t : Int) 1073741823 = some (.int .i64 (d : Int))) (s1 : storeCellsA σ r ik [.int .i64 (d : Int)] = some σ1) (c2 : shrA (t : Int) (min 30 IntKind.i64.bits) = (q : Int)) (hw : wrapA .i64 ((k : Int) + 1) = (k : Int) + 1) :
    exI TT (FI.of Try.f144 (TT.an 144)) K144_1 [(0, .lst la (dgs .i64 a)), (1, .lst lb (dgs .i64 b)), (5, .sl r 0 L L), (6, .int .i64 i), (7, .int .i64 c), (8, .int .i64 k)] σ = exI TT (FI.of Try.f144 (TT.an 144)) K144_1 [(0, .lst la (dgs .i64 a)), (1, .lst lb (dgs .i64 b)), (5, .sl r 0 L L), (6, .int .i64 i), (7, .int .i64 q), (8, .int .i64 ((k : Int) + 1))] σ1 := by
  rw [fi144]
  conv => lhs; rw [xl144_1]
  simp only [B144_1, b144, Try.f144, Option.getD, fstC, sndC, bodyC, thnC, elsC]
  simp (maxSteps := 1000000) (disch := omega) [eK144_0_0, eK144_1_2, eK144_1_1, eK144_1_0, eK144_2_4, w1, r1, w2, r2, r3, w3, w4, c1, s1, c2, hw]
theorem sx144 (a b : List Nat) (la lb r L i c k ik d q : Nat) (σ σ1 : St) (hk : lb ≤ k) (hc : 0 < c) (hik : ik < L) (w1 : wrapA .i64 ((i : Int) + (k : Int)) = (ik : Int)) (r1 : cellsAt σ (.ptr r ik) 1 = some [.int .i64 0]) (w2 : wrapA .i64 (c : Int) = (c : Int))
    (c1 : bitsA .and .i64 (c : Int) 1073741823 = some (.int .i64 (d : Int))) (s1 : storeCellsA σ r ik [.int .i64 (d : Int)] = some σ1) (c2 : shrA (c : Int) (min 30 IntKind.i64.bits) = (q : Int)) (hw : wrapA .i64 ((k : Int) + 1) = (k : Int) + 1) :
    exI TT (FI.of Try.f144 (TT.an 144)) K144_1 [(0, .lst la (dgs .i64 a)), (1, .lst lb (dgs .i64 b)), (5, .sl r 0 L L), (6, .int .i64 i), (7, .int .i64 c), (8, .int .i64 k)] σ = exI TT (FI.of Try.f144 (TT.an 144)) K144_1 [(0, .lst la (dgs .i64 a)), (1, .lst lb (dgs .i64 b)), (5, .sl r 0 L L), (6, .int .i64 i), (7, .int .i64 q), (8, .int .i64 ((k : Int) + 1))] σ1 := by
  rw [fi144]
  conv => lhs; rw [xl144_1]
  simp only [B144_1, b144, Try.f144, Option.getD, fstC, sndC, bodyC, thnC, elsC]
  simp (maxSteps := 1000000) (disch := omega) [eK144_0_0, eK144_1_2, eK144_1_1, eK144_1_0, eK144_2_4, w1, r1, w2, c1, s1, c2, hw]
theorem se144 (a b : List Nat) (la lb r L i k : Nat) (σ : St) (hk : lb ≤ k) (hw : wrapA .i64 ((i : Int) + 1) = (i : Int) + 1) :
    exI TT (FI.of Try.f144 (TT.an 144)) K144_1 [(0, .lst la (dgs .i64 a)), (1, .lst lb (dgs .i64 b)), (5, .sl r 0 L L), (6, .int .i64 i), (7, .int .i64 0), (8, .int .i64 k)] σ = exI TT (FI.of Try.f144 (TT.an 144)) K144_0 [(0, .lst la (dgs .i64 a)), (1, .lst lb (dgs .i64 b)), (5, .sl r 0 L L), (6, .int .i64 ((i : Int) + 1))] σ := by
  rw [fi144, xl144_1]
  simp only [B144_1, b144, Try.f144, Option.getD, fstC, sndC, bodyC, thnC, elsC]
  simp (maxSteps := 1000000) (disch := omega) [eK144_0_0, eK144_1_2, eK144_1_1, eK144_1_0, eK144_2_4]
  simp only [R144_1_2, b144, Try.f144, Option.getD, fstC, sndC, bodyC, thnC, elsC]
  simp (maxSteps := 1000000) (disch := omega) [eK144_0_0, eK144_1_2, eK144_1_1, eK144_1_0, eK144_2_4, hw]
theorem so144 (a b : List Nat) (la lb r L i : Nat) (σ : St) (hi : i < la) :
    exI TT (FI.of Try.f144 (TT.an 144)) K144_0 [(0, .lst la (dgs .i64 a)), (1, .lst lb (dgs .i64 b)), (5, .sl r 0 L L), (6, .int .i64 i)] σ = exI TT (FI.of Try.f144 (TT.an 144)) K144_1 [(0, .lst la (dgs .i64 a)), (1, .lst lb (dgs .i64 b)), (5, .sl r 0 L L), (6, .int .i64 i), (7, .int .i64 0), (8, .int .i64 0)] σ := by
  rw [fi144, xl144_0]
  simp only [B144_0, b144, Try.f144, Option.getD, fstC, sndC, bodyC, thnC, elsC]
  simp (maxSteps := 1000000) (disch := omega) [eK144_0_0, eK144_1_2, eK144_1_1, eK144_1_0, eK144_2_4]
  rfl
theorem sz144 (a b : List Nat) (la lb r L i : Nat) (σ : St) (hi : la ≤ i) :
    exI TT (FI.of Try.f144 (TT.an 144)) K144_0 [(0, .lst la (dgs .i64 a)), (1, .lst lb (dgs .i64 b)), (5, .sl r 0 L L), (6, .int .i64 i)] σ = exI TT (FI.of Try.f144 (TT.an 144)) K144_2 [(0, .lst la (dgs .i64 a)), (1, .lst lb (dgs .i64 b)), (5, .sl r 0 L L), (6, .int .i64 i), (18, .bool false)] σ := by
  rw [fi144, xl144_0]
  simp only [B144_0, b144, Try.f144, Option.getD, fstC, sndC, bodyC, thnC, elsC]
  simp (maxSteps := 1000000) (disch := omega) [eK144_0_0, eK144_1_2, eK144_1_1, eK144_1_0, eK144_2_4]
  simp only [R144_0_0, b144, Try.f144, Option.getD, fstC, sndC, bodyC, thnC, elsC]
  simp (maxSteps := 1000000) (disch := omega) [eK144_0_0, eK144_1_2, eK144_1_1, eK144_1_0, eK144_2_4]
  rfl
theorem be144 (a b : List Nat) (la lb L : Nat) (σ : St) (hw : wrapA .i64 ((la : Int) + (lb : Int)) = (L : Int)) (hm : makeSliceA TT ⟨[], 0⟩ 97 (.int .i64 L) (.int .i64 L) = some (.sl 0 0 L L, σ)) : exI TT (FI.of Try.f144 (TT.an 144)) [.code b144] (paramsE 0 [.lst la (dgs .i64 a), .lst lb (dgs .i64 b)]) ⟨[], 0⟩ = exI TT (FI.of Try.f144 (TT.an 144)) K144_0 [(0, .lst la (dgs .i64 a)), (1, .lst lb (dgs .i64 b)), (5, .sl 0 0 L L), (6, .int .i64 0)] σ := by
  rw [fi144]
  simp only [b144, Try.f144, Option.getD, fstC, sndC, bodyC, thnC, elsC]
  simp (maxSteps := 1000000) (disch := omega) [eK144_0_0, eK144_1_2, eK144_1_1, eK144_1_0, eK144_2_4, hw, hm]
  rfl
set_option maxHeartbeats 1000000 in
theorem d144 (a b : List Nat) (la lb : Nat) (ha : la = a.length) (hb : lb = b.length) (da : Dg 1073741824 a) (db : Dg 1073741824 b) (r L i x : Nat) (hx : at1 a i = x) (hi : i < la) (hL : L = la + lb) (hs : L < 100000000000) (hxb : x < 1073741824) : ∀ (m k c : Nat) (out : List Nat) (σ : St), k + m = lb → c < 1073741824 → out.length = L → Dg 1073741824 out → RowD σ r .i64 out →
    ∃ σ', exI TT (FI.of Try.f144 (TT.an 144)) K144_1 [(0, .lst la (dgs .i64 a)), (1, .lst lb (dgs .i64 b)), (5, .sl r 0 L L), (6, .int .i64 i), (7, .int .i64 c), (8, .int .i64 k)] σ = exI TT (FI.of Try.f144 (TT.an 144)) K144_1 [(0, .lst la (dgs .i64 a)), (1, .lst lb (dgs .i64 b)), (5, .sl r 0 L L), (6, .int .i64 i), (7, .int .i64 ((mulI 1073741824 x b i m k c out).2 : Nat)), (8, .int .i64 lb)] σ' ∧ RowD σ' r .i64 (mulI 1073741824 x b i m k c out).1 := by
  intro m
  induction m with
  | zero =>
    intro k c out σ hk hc ho hd hr
    have : k = lb := by omega
    subst this
    exact ⟨σ, rfl, hr⟩
  | succ m ih =>
    intro k c out σ hk hc ho hd hr
    have h1 := at1_lt (B := 1073741824) (by decide) hd (i + k)
    have h2 := at1_lt (B := 1073741824) (by decide) db k
    have hxy : x * at1 b k ≤ 1152921502459363329 := Nat.le_trans (Nat.mul_le_mul (show x ≤ 1073741823 by omega) (show at1 b k ≤ 1073741823 by omega)) (by decide)
    have hstep := mul_step (B := 1073741824) (by decide) hc h1 hxb h2
    obtain ⟨σ1, s1, q1, u1⟩ := RowD.st hr (i := i + k) (by omega) ((c + at1 out (i + k) + x * at1 b k) % 1073741824)
    obtain ⟨σ', k1, k2⟩ := ih (k + 1) ((c + at1 out (i + k) + x * at1 b k) / 1073741824) (out.set (i + k) ((c + at1 out (i + k) + x * at1 b k) % 1073741824)) σ1 (by omega) hstep (by simp [ho]) (Dg_set hd (Nat.mod_lt _ (by decide))) q1
    rw [Nm.mulI]
    refine ⟨σ', ?_, k2⟩
    rw [← k1]
    have hk1 : ((k + 1 : Nat) : Int) = (k : Int) + 1 := by omega
    rw [hk1]
    have r1 := hr.rd (i := i + k) (by omega)
    have r2 := fun σ : St => lp_dg (σ := σ) (k := .i64) (l := a) (i := i) (by omega)
    rw [hx] at r2
    have r3 := fun σ : St => lp_dg (σ := σ) (k := .i64) (l := b) (i := k) (by omega)
    have w3 : wrapA .i64 ((x : Int) * ((at1 b k : Nat) : Int)) = ((x * at1 b k : Nat) : Int) := by rw [← Int.natCast_mul]; exact wi64 (by omega)
    generalize x * at1 b k = xy at *
    generalize at1 out (i + k) = o at *
    exact si144 a b la lb r L i c k (i + k) o (c + o) x (at1 b k) xy (c + o + xy) _ _ σ σ1 hi (by omega) (by omega) (by rw [wrapA_id (by omega) (by omega)]; omega) r1 (by rw [wrapA_id (by omega) (by omega)]; omega) r2 r3 w3 (by rw [wrapA_id (by omega) (by omega)]; omega) (and30i (by omega)) s1 (shr30 _) (wrapA_id (by omega) (by omega))
set_option maxHeartbeats 1000000 in
theorem l144 (a b : List Nat) (la lb : Nat) (ha : la = a.length) (hb : lb = b.length) (da : Dg 1073741824 a) (db : Dg 1073741824 b) (r L : Nat) (hL : L = la + lb) (hs : L < 100000000000) : ∀ (m i : Nat) (out : List Nat) (σ : St), i + m = la → out.length = L → Dg 1073741824 out → (∀ j, i + lb ≤ j → at1 out j = 0) → RowD σ r .i64 out →
    ∃ v σ', exI TT (FI.of Try.f144 (TT.an 144)) K144_0 [(0, .lst la (dgs .i64 a)), (1, .lst lb (dgs .i64 b)), (5, .sl r 0 L L), (6, .int .i64 i)] σ = some (v, σ') ∧ frzV σ' frzDepth v = some (SB (val 1073741824 (mulO 1073741824 a b m i out))) := by
  intro m
  induction m with
  | zero =>
    intro i out σ hi ho hd hz hr
    have : i = la := by omega
    subst this
    obtain ⟨v, h1, h2⟩ := tr144 out r L σ (by omega) (by omega) hd hr [(0, .lst i (dgs .i64 a)), (1, .lst lb (dgs .i64 b)), (5, .sl r 0 L L), (6, .int .i64 i), (18, .bool false)] (by rw [ho]; rfl)
    simp only [mulO]
    exact ⟨v, σ, (sz144 a b i lb r L i σ (Nat.le_refl _)).trans h1, h2⟩
  | succ m ih =>
    intro i out σ hi ho hd hz hr
    have h1 := at1_lt (B := 1073741824) (by decide) da i
    obtain ⟨σ1, k1, q1⟩ := d144 a b la lb ha hb da db r L i (at1 a i) rfl (by omega) hL hs h1 lb 0 0 out σ (by omega) (by decide) ho hd hr
    obtain ⟨s1, s2, s3, s4⟩ := mulO_step (B := 1073741824) (by decide) da db i out hd (by omega) (by rw [← hb]; exact hz)
    obtain ⟨p1, p2, p3, p4⟩ := mulI_spec (B := 1073741824) (by decide) h1 db i b.length 0 0 out (by decide) hd (by omega)
    rw [← hb] at s1 s2 s3 s4 p1 p2 p3 p4
    have hz0 : at1 (mulI 1073741824 (at1 a i) b i lb 0 0 out).1 (i + lb) = 0 := (p4.1 (i + lb) (by omega)).trans (hz _ (Nat.le_refl _))
    have hw : wrapA .i64 ((i : Int) + 1) = (i : Int) + 1 := wrapA_id (by omega) (by omega)
    have hi1 : ((i + 1 : Nat) : Int) = (i : Int) + 1 := by omega
    rw [mulO, ← hb]
    have e1 := so144 a b la lb r L i σ (by omega)
    simp only [show ((0 : Nat) : Int) = 0 from rfl] at k1
    rcases Nat.eq_zero_or_pos (mulI 1073741824 (at1 a i) b i lb 0 0 out).2 with hc | hc
    · have hset : (mulI 1073741824 (at1 a i) b i lb 0 0 out).1.set (i + lb) (mulI 1073741824 (at1 a i) b i lb 0 0 out).2 = (mulI 1073741824 (at1 a i) b i lb 0 0 out).1 := by
        rw [hc]; exact set_self (by rw [p1]; omega) hz0
      rw [hset] at s1 s2 s3 s4 ⊢
      obtain ⟨v, σ', y1, y2⟩ := ih (i + 1) _ σ1 (by omega) (by rw [s1]; exact ho) s2 s3 q1
      refine ⟨v, σ', ?_, y2⟩
      rw [e1, k1, hc, ← y1, hi1]
      exact se144 a b la lb r L i lb σ1 (Nat.le_refl _) hw
    · obtain ⟨σ2, z1, z2, _⟩ := RowD.st q1 (i := i + lb) (by rw [p1]; omega) (mulI 1073741824 (at1 a i) b i lb 0 0 out).2
      obtain ⟨v, σ', y1, y2⟩ := ih (i + 1) _ σ2 (by omega) (by rw [s1]; exact ho) s2 s3 z2
      refine ⟨v, σ', ?_, y2⟩
      have r1 := q1.rd (i := i + lb) (by rw [p1]; omega)
      rw [hz0] at r1
      have c1 := and30i (a := (mulI 1073741824 (at1 a i) b i lb 0 0 out).2) (by omega)
      have c2 := shr30 (mulI 1073741824 (at1 a i) b i lb 0 0 out).2
      rw [Nat.mod_eq_of_lt (by omega)] at c1
      rw [Nat.div_eq_of_lt (by omega)] at c2
      have e2 := sx144 a b la lb r L i (mulI 1073741824 (at1 a i) b i lb 0 0 out).2 lb (i + lb) _ 0 σ1 σ2 (Nat.le_refl _) hc (by omega) (by rw [wrapA_id (by omega) (by omega)]; omega) r1 (wrapA_id (by omega) (by omega)) c1 z1 c2 (wrapA_id (by omega) (by omega))
      have e3 := se144 a b la lb r L i (lb + 1) σ2 (by omega) hw
      rw [e1, k1, e2, ← y1, hi1]
      exact e3
theorem v144 (a b : Nat) (ha : (dg 1073741824 a).length < 10000000000) (hb : (dg 1073741824 b).length < 10000000000) : FnF TT 144 [SB a, SB b] (SB (a * b)) := by
  obtain ⟨m1, m2, m3⟩ := mul_dg (B := 1073741824) (by decide) (dg_Dg (by decide) a) (dg_Dg (by decide) b)
  rw [val_dg (by decide), val_dg (by decide)] at m3
  have hm := make_dgs (T := TT) (σ := ⟨[], 0⟩) (st := 97) (k := .i64) (n := (dg 1073741824 a).length + (dg 1073741824 b).length) ty97 ty2 (by decide) (by omega)
  obtain ⟨v, σ1, h1, h2⟩ := l144 (dg 1073741824 a) (dg 1073741824 b) _ _ rfl rfl (dg_Dg (by decide) a) (dg_Dg (by decide) b) 0 ((dg 1073741824 a).length + (dg 1073741824 b).length) rfl (by omega) (dg 1073741824 a).length 0 (List.replicate ((dg 1073741824 a).length + (dg 1073741824 b).length) 0) _ (by omega) (by simp) (Dg_zeros (by decide) _) (fun j _ => by
    unfold at1; rw [List.getD_eq_getElem?_getD, List.getElem?_replicate]; split <;> rfl) (RowA.push (σ := ⟨[], 0⟩) (o := false))
  rw [m3] at h2
  refine FnF.mk (c := b144) fn144 rfl md144 ⟨σ1, v, ?_, h2⟩
  rw [SB, SB, be144 _ _ _ _ _ _ (by rw [wrapA_id (by omega) (by omega)]; omega) hm]
  exact h1

noncomputable def b177 : Code := Try.f177.body.getD .skip
noncomputable def B177_0 : Code := (bodyC (bodyC (sndC (fstC (sndC (sndC (sndC (sndC (sndC (sndC (sndC b177)))))))))))
noncomputable def K177_0 : List It := .lp B177_0 :: .blk 0 :: .code (sndC (sndC (sndC (sndC (sndC (sndC (sndC (sndC b177)))))))) :: []
theorem xl177_0 {fi : FI} {env : Env} {σ : St} : exI TT fi K177_0 env σ = exI TT fi (.code B177_0 :: K177_0) env σ := by unfold K177_0; exact xI_lp
noncomputable def R177_0_0 : List It := .code (sndC (sndC (sndC (sndC (sndC (sndC (sndC (sndC b177)))))))) :: []
theorem eK177_0_0 : exitA 0 K177_0 = some R177_0_0 := rfl
set_option maxHeartbeats 1000000 in
theorem s177bs (la lb nt no n2 n3 n4 n5 n6 : Nat) (a b lt lo l2 l3 l4 l5 l6 : List Nat) (vq vr : AV) (i i30 im x y : Nat) (z : Int) (σ σ1 σ2 : St) (c1 : callI TT 144 [vq, .lst nt (dgs .i64 lt)] σ = some (.lst n2 (dgs .i64 l2), σ1)) (c2 : callI TT 144 [vr, .lst nt (dgs .i64 lt)] σ1 = some (.lst n3 (dgs .i64 l3), σ2)) (d1 : (i : Int).tdiv 30 = (i30 : Int)) (w1 : wrapA .i64 (i30 : Int) = (i30 : Int)) (hi : i30 < la) (r1 : ∀ σ : St, cellsAt σ (.lp (dgs .i64 a) i30) 1 = some [.int .i64 (x : Int)]) (m1 : (i : Int).tmod 30 = (im : Int)) (w2 : wrapA .u64 (im : Int) = (im : Int)) (s1 : shrA (x : Int) (min im IntKind.i64.bits) = (y : Int)) (hw : wrapA .i64 ((i : Int) - 1) = (i : Int) - 1) (b1 : bitsA .and .i64 (y : Int) 1 = some (.int .i64 1)) (c3 : ∀ σ, callI TT 179 [.lst n3 (dgs .i64 l3), .lst no (dgs .i64 lo)] σ = some (.lst n4 (dgs .i64 l4), σ)) (c4 : ∀ σ, callI TT 178 [.lst n4 (dgs .i64 l4), .lst lb (dgs .i64 b)] σ = some (.int .i64 z, σ)) (hz : 0 ≤ z) (c5 : ∀ σ, callI TT 180 [.lst n4 (dgs .i64 l4), .lst lb (dgs .i64 b)] σ = some (.lst n5 (dgs .i64 l5), σ)) (c6 : ∀ σ, callI TT 179 [.lst n2 (dgs .i64 l2), .lst no (dgs .i64 lo)] σ = some (.lst n6 (dgs .i64 l6), σ)) :
    exI TT (FI.of Try.f177 (TT.an 177)) K177_0 [(0, .lst la (dgs .i64 a)), (1, .lst lb (dgs .i64 b)), (6, vq), (8, vr), (9, .lst nt (dgs .i64 lt)), (10, .lst no (dgs .i64 lo)), (11, .int .i64 i)] σ = exI TT (FI.of Try.f177 (TT.an 177)) K177_0 [(0, .lst la (dgs .i64 a)), (1, .lst lb (dgs .i64 b)), (6, .lst n6 (dgs .i64 l6)), (8, .lst n5 (dgs .i64 l5)), (9, .lst nt (dgs .i64 lt)), (10, .lst no (dgs .i64 lo)), (11, .int .i64 ((i : Int) - 1))] σ2 := by
  skip
  have hi0 : (0 : Int) ≤ (i : Int) := by omega
  rw [fi177]
  conv => lhs; rw [xl177_0]
  simp only [B177_0, b177, Try.f177, Option.getD, fstC, sndC, bodyC, thnC, elsC]
  simp (maxSteps := 1000000) (disch := omega) [eK177_0_0, c1, c2, d1, w1, r1, m1, w2, s1, hw, b1, c3, c4, c5, c6, convA]

set_option maxHeartbeats 1000000 in
theorem s177bn (la lb nt no n2 n3 n4 n5 n6 : Nat) (a b lt lo l2 l3 l4 l5 l6 : List Nat) (vq vr : AV) (i i30 im x y : Nat) (z : Int) (σ σ1 σ2 : St) (c1 : callI TT 144 [vq, .lst nt (dgs .i64 lt)] σ = some (.lst n2 (dgs .i64 l2), σ1)) (c2 : callI TT 144 [vr, .lst nt (dgs .i64 lt)] σ1 = some (.lst n3 (dgs .i64 l3), σ2)) (d1 : (i : Int).tdiv 30 = (i30 : Int)) (w1 : wrapA .i64 (i30 : Int) = (i30 : Int)) (hi : i30 < la) (r1 : ∀ σ : St, cellsAt σ (.lp (dgs .i64 a) i30) 1 = some [.int .i64 (x : Int)]) (m1 : (i : Int).tmod 30 = (im : Int)) (w2 : wrapA .u64 (im : Int) = (im : Int)) (s1 : shrA (x : Int) (min im IntKind.i64.bits) = (y : Int)) (hw : wrapA .i64 ((i : Int) - 1) = (i : Int) - 1) (b1 : bitsA .and .i64 (y : Int) 1 = some (.int .i64 1)) (c3 : ∀ σ, callI TT 179 [.lst n3 (dgs .i64 l3), .lst no (dgs .i64 lo)] σ = some (.lst n4 (dgs .i64 l4), σ)) (c4 : ∀ σ, callI TT 178 [.lst n4 (dgs .i64 l4), .lst lb (dgs .i64 b)] σ = some (.int .i64 z, σ)) (hz : z < 0) :
    exI TT (FI.of Try.f177 (TT.an 177)) K177_0 [(0, .lst la (dgs .i64 a)), (1, .lst lb (dgs .i64 b)), (6, vq), (8, vr), (9, .lst nt (dgs .i64 lt)), (10, .lst no (dgs .i64 lo)), (11, .int .i64 i)] σ = exI TT (FI.of Try.f177 (TT.an 177)) K177_0 [(0, .lst la (dgs .i64 a)), (1, .lst lb (dgs .i64 b)), (6, .lst n2 (dgs .i64 l2)), (8, .lst n4 (dgs .i64 l4)), (9, .lst nt (dgs .i64 lt)), (10, .lst no (dgs .i64 lo)), (11, .int .i64 ((i : Int) - 1))] σ2 := by
  skip
  have hi0 : (0 : Int) ≤ (i : Int) := by omega
  rw [fi177]
  conv => lhs; rw [xl177_0]
  simp only [B177_0, b177, Try.f177, Option.getD, fstC, sndC, bodyC, thnC, elsC]
  simp (maxSteps := 1000000) (disch := omega) [eK177_0_0, c1, c2, d1, w1, r1, m1, w2, s1, hw, b1, c3, c4, convA]

set_option maxHeartbeats 1000000 in
theorem s177zs (la lb nt no n2 n3 n4 n5 n6 : Nat) (a b lt lo l2 l3 l4 l5 l6 : List Nat) (vq vr : AV) (i i30 im x y : Nat) (z : Int) (σ σ1 σ2 : St) (c1 : callI TT 144 [vq, .lst nt (dgs .i64 lt)] σ = some (.lst n2 (dgs .i64 l2), σ1)) (c2 : callI TT 144 [vr, .lst nt (dgs .i64 lt)] σ1 = some (.lst n3 (dgs .i64 l3), σ2)) (d1 : (i : Int).tdiv 30 = (i30 : Int)) (w1 : wrapA .i64 (i30 : Int) = (i30 : Int)) (hi : i30 < la) (r1 : ∀ σ : St, cellsAt σ (.lp (dgs .i64 a) i30) 1 = some [.int .i64 (x : Int)]) (m1 : (i : Int).tmod 30 = (im : Int)) (w2 : wrapA .u64 (im : Int) = (im : Int)) (s1 : shrA (x : Int) (min im IntKind.i64.bits) = (y : Int)) (hw : wrapA .i64 ((i : Int) - 1) = (i : Int) - 1) (b1 : bitsA .and .i64 (y : Int) 1 = some (.int .i64 0)) (hn : n3 = n4) (hl : l3 = l4) (c4 : ∀ σ, callI TT 178 [.lst n4 (dgs .i64 l4), .lst lb (dgs .i64 b)] σ = some (.int .i64 z, σ)) (hz : 0 ≤ z) (c5 : ∀ σ, callI TT 180 [.lst n4 (dgs .i64 l4), .lst lb (dgs .i64 b)] σ = some (.lst n5 (dgs .i64 l5), σ)) (c6 : ∀ σ, callI TT 179 [.lst n2 (dgs .i64 l2), .lst no (dgs .i64 lo)] σ = some (.lst n6 (dgs .i64 l6), σ)) :
    exI TT (FI.of Try.f177 (TT.an 177)) K177_0 [(0, .lst la (dgs .i64 a)), (1, .lst lb (dgs .i64 b)), (6, vq), (8, vr), (9, .lst nt (dgs .i64 lt)), (10, .lst no (dgs .i64 lo)), (11, .int .i64 i)] σ = exI TT (FI.of Try.f177 (TT.an 177)) K177_0 [(0, .lst la (dgs .i64 a)), (1, .lst lb (dgs .i64 b)), (6, .lst n6 (dgs .i64 l6)), (8, .lst n5 (dgs .i64 l5)), (9, .lst nt (dgs .i64 lt)), (10, .lst no (dgs .i64 lo)), (11, .int .i64 ((i : Int) - 1))] σ2 := by
  subst hn hl
  have hi0 : (0 : Int) ≤ (i : Int) := by omega
  rw [fi177]
  conv => lhs; rw [xl177_0]
  simp only [B177_0, b177, Try.f177, Option.getD, fstC, sndC, bodyC, thnC, elsC]
  simp (maxSteps := 1000000) (disch := omega) [eK177_0_0, c1, c2, d1, w1, r1, m1, w2, s1, hw, b1, c4, c5, c6, convA]

set_option maxHeartbeats 1000000 in
theorem s177zn (la lb nt no n2 n3 n4 n5 n6 : Nat) (a b lt lo l2 l3 l4 l5 l6 : List Nat) (vq vr : AV) (i i30 im x y : Nat) (z : Int) (σ σ1 σ2 : St) (c1 : callI TT 144 [vq, .lst nt (dgs .i64 lt)] σ = some (.lst n2 (dgs .i64 l2), σ1)) (c2 : callI TT 144 [vr, .lst nt (dgs .i64 lt)] σ1 = some (.lst n3 (dgs .i64 l3), σ2)) (d1 : (i : Int).tdiv 30 = (i30 : Int)) (w1 : wrapA .i64 (i30 : Int) = (i30 : Int)) (hi : i30 < la) (r1 : ∀ σ : St, cellsAt σ (.lp (dgs .i64 a) i30) 1 = some [.int .i64 (x : Int)]) (m1 : (i : Int).tmod 30 = (im : Int)) (w2 : wrapA .u64 (im : Int) = (im : Int)) (s1 : shrA (x : Int) (min im IntKind.i64.bits) = (y : Int)) (hw : wrapA .i64 ((i : Int) - 1) = (i : Int) - 1) (b1 : bitsA .and .i64 (y : Int) 1 = some (.int .i64 0)) (hn : n3 = n4) (hl : l3 = l4) (c4 : ∀ σ, callI TT 178 [.lst n4 (dgs .i64 l4), .lst lb (dgs .i64 b)] σ = some (.int .i64 z, σ)) (hz : z < 0) :
    exI TT (FI.of Try.f177 (TT.an 177)) K177_0 [(0, .lst la (dgs .i64 a)), (1, .lst lb (dgs .i64 b)), (6, vq), (8, vr), (9, .lst nt (dgs .i64 lt)), (10, .lst no (dgs .i64 lo)), (11, .int .i64 i)] σ = exI TT (FI.of Try.f177 (TT.an 177)) K177_0 [(0, .lst la (dgs .i64 a)), (1, .lst lb (dgs .i64 b)), (6, .lst n2 (dgs .i64 l2)), (8, .lst n4 (dgs .i64 l4)), (9, .lst nt (dgs .i64 lt)), (10, .lst no (dgs .i64 lo)), (11, .int .i64 ((i : Int) - 1))] σ2 := by
  subst hn hl
  have hi0 : (0 : Int) ≤ (i : Int) := by omega
  rw [fi177]
  conv => lhs; rw [xl177_0]
  simp only [B177_0, b177, Try.f177, Option.getD, fstC, sndC, bodyC, thnC, elsC]
  simp (maxSteps := 1000000) (disch := omega) [eK177_0_0, c1, c2, d1, w1, r1, m1, w2, s1, hw, b1, c4, convA]

theorem en177 (la lb nt no : Nat) (a b lt lo : List Nat) (vq vr : AV) (σ : St) : exI TT (FI.of Try.f177 (TT.an 177)) K177_0 [(0, .lst la (dgs .i64 a)), (1, .lst lb (dgs .i64 b)), (6, vq), (8, vr), (9, .lst nt (dgs .i64 lt)), (10, .lst no (dgs .i64 lo)), (11, .int .i64 (-1))] σ = some (.tup [vq, vr], σ) := by
  rw [fi177, xl177_0]
  simp only [B177_0, b177, Try.f177, Option.getD, fstC, sndC, bodyC, thnC, elsC]
  simp (maxSteps := 1000000) (disch := omega) [eK177_0_0]
  simp only [R177_0_0, b177, Try.f177, Option.getD, fstC, sndC, bodyC, thnC, elsC]
  simp (maxSteps := 1000000) (disch := omega) [eK177_0_0]
theorem bl177 (la lb : Nat) (a b : List Nat) (v : AV) (σ1 σ2 σ3 : St) (hlt : la < lb) (c1 : buildSliceA TT ⟨[], 0⟩ 97 0 [] = some (.sl 0 0 0 0, σ1)) (c2 : buildSliceA TT σ1 97 0 [] = some (.sl 1 0 0 0, σ2)) (c3 : appendA TT σ2 97 97 (.sl 1 0 0 0) (.lst la (dgs .i64 a)) = some (v, σ3)) :
    exI TT (FI.of Try.f177 (TT.an 177)) [.code b177] (paramsE 0 [.lst la (dgs .i64 a), .lst lb (dgs .i64 b)]) ⟨[], 0⟩ = some (.tup [.sl 0 0 0 0, v], σ3) := by
  have h : (la : Int) < (lb : Int) := by omega
  rw [fi177]
  simp only [b177, Try.f177, Option.getD, fstC, sndC, bodyC, thnC, elsC]
  simp (maxSteps := 1000000) (disch := omega) [eK177_0_0, c1, c2, c3]
theorem be177 (la lb nt no left i : Nat) (a b lt lo : List Nat) (vs v : AV) (d : Nat) (σ1 σ2 σ3 : St) (hle : lb ≤ la) (c1 : buildSliceA TT ⟨[], 0⟩ 97 0 [] = some (.sl 0 0 0 0, σ1)) (w1 : wrapA .i64 ((la : Int) - (lb : Int)) = (d : Int)) (w2 : wrapA .i64 ((d : Int) + 1) = (left : Int)) (c2 : buildSliceA TT σ1 97 0 [] = some (.sl 1 0 0 0, σ2)) (hs : sliceA TT σ2 97 (.lst la (dgs .i64 a)) (some (.int .i64 left)) none = some vs) (c3 : appendA TT σ2 97 97 (.sl 1 0 0 0) vs = some (v, σ3)) (c4 : ∀ σ, callI TT 145 [.int .i64 2] σ = some (.lst nt (dgs .i64 lt), σ)) (c5 : ∀ σ, callI TT 145 [.int .i64 1] σ = some (.lst no (dgs .i64 lo), σ)) (w3 : wrapA .i64 ((left : Int) * 30) = (i : Int)) (w4 : wrapA .i64 ((i : Int) - 1) = (i : Int) - 1) :
    exI TT (FI.of Try.f177 (TT.an 177)) [.code b177] (paramsE 0 [.lst la (dgs .i64 a), .lst lb (dgs .i64 b)]) ⟨[], 0⟩ = exI TT (FI.of Try.f177 (TT.an 177)) K177_0 [(0, .lst la (dgs .i64 a)), (1, .lst lb (dgs .i64 b)), (6, .sl 0 0 0 0), (8, v), (9, .lst nt (dgs .i64 lt)), (10, .lst no (dgs .i64 lo)), (11, .int .i64 ((i : Int) - 1))] σ3 := by
  have h : (lb : Int) ≤ (la : Int) := by omega
  rw [fi177]
  simp only [b177, Try.f177, Option.getD, fstC, sndC, bodyC, thnC, elsC]
  simp (maxSteps := 1000000) (disch := omega) [eK177_0_0, c1, w1, w2, c2, hs, c3, c4, c5, w3, w4]
  rfl
/-- An append to an empty row. -/
theorem ap0 {σ : St} {b m : Nat} {w : List Nat} (hg : σ.get b = some ⟨dgs .i64 [], 1, false⟩) (hb : b < σ.n) (hm : m = w.length) (hs : m < 100000000000) : ∃ v σ', appendA TT σ 97 97 (.sl b 0 0 0) (.lst m (dgs .i64 w)) = some (v, σ') ∧ frzV σ' frzDepth v = some (.lst m (dgs .i64 w)) ∧ (∀ c, c ≠ b → c < σ.n → σ'.get c = σ.get c) ∧ ∃ b' c', v = .sl b' 0 m c' ∧ (b' = b ∨ b' = σ.n) ∧ RowD σ' b' .i64 w ∧ m ≤ c' := by
  have hf : firstA σ 1 m (.lst m (dgs .i64 w)) = some (dgs .i64 w) := by
    show getCells (dgs .i64 w) 0 (m * 1) = _
    rw [getCells_dgs (by omega), List.drop_zero, List.take_of_length_le (by omega)]
  rcases Nat.eq_zero_or_pos m with h0 | h0
  · obtain rfl : w = [] := List.length_eq_zero_iff.1 (by omega)
    subst h0
    have hs1 : storeCellsA σ b (0 + 0 * 1) (dgs .i64 []) = some (σ.set b ⟨dgs .i64 [], 1, false⟩) := by
      rw [storeCellsA_eq, hg]
      simp [dgs, putCells, allOne]
    have hr : RowD (σ.set b ⟨dgs .i64 [], 1, false⟩) b .i64 [] := ⟨false, get_set_eq hg, hb⟩
    refine ⟨.sl b 0 0 0, σ.set b ⟨dgs .i64 [], 1, false⟩, ?_, hr.frz (d := 4) (Nat.le_refl _) (Nat.le_refl _), fun c hc _ => get_set_ne (fun e => hc e.symm), b, 0, rfl, .inl rfl, hr, Nat.le_refl _⟩
    unfold appendA
    simp only [ty97, ty2, lenA, hf, allOne_dgs, hs1]
    simp
  · have hr : RowD (σ.push ⟨dgs .i64 w, 1, true⟩) σ.n .i64 w := RowA.push
    refine ⟨.sl σ.n 0 m m, σ.push ⟨dgs .i64 w, 1, true⟩, ?_, by have := hr.frz (d := 4) (n := m) (c := m) (by omega) (Nat.le_refl _); rw [List.take_of_length_le (by omega)] at this; exact this, fun c _ hc => get_push_lt hc, σ.n, m, rfl, .inr rfl, hr, Nat.le_refl _⟩
    have hg0 : getCells (dgs .i64 []) 0 (0 * 1) = some [] := rfl
    unfold appendA
    simp only [ty97, ty2, lenA, hf, allOne_dgs, hg, hg0]
    rw [if_neg (by simp), if_neg (by omega), if_pos ⟨by omega, by omega, trivial, by simp [dgs], by decide⟩]
    simp
/-- A row that is given away, beside a frozen value. -/
theorem row2 {T : Tab} {f : FuncId} {v w : AV} {k : IntKind} {l : List Nat} {n c N : Nat} (h : FnF T f [.lst n (dgs k (l.take n)), SB N] v) {σ : St} {b : Nat} (hr : RowD σ b k l) (hn : n ≤ l.length) (hc : n ≤ c) : ∃ σ', callI T f [.sl b 0 n c, SB N] σ = some (v, σ') ∧ But b σ σ' := by
  refine ⟨_, h σ [.sl b 0 n c, SB N] (mapO_cons (hr.frz hn hc) (mapO_cons rfl rfl)), ?_⟩
  split
  · exact ⟨rfl, fun _ _ => rfl⟩
  · have : [AV.sl b 0 n c, SB N].flatMap (rowsV σ frzDepth) = [b] := by
      show rowsV σ frzDepth (.sl b 0 n c) ++ (rowsV σ frzDepth (SB N) ++ []) = [b]
      rw [show frzDepth = 5 + 1 from rfl, rows_sl hr (by omega)]; rfl
    rw [this]
    refine ⟨rfl, fun x hx => get_del_ne (fun e => hx e.symm)⟩
theorem and1i {x : Nat} (h : x ≤ 9223372036854775807) : bitsA .and .i64 (x : Int) 1 = some (.int .i64 ((x % 2 : Nat) : Int)) := by
  have h1 := w_and .i64 (a := x) (b := 1) h (by decide)
  rw [show (1 : Nat) = 2 ^ 1 - 1 from rfl, Nat.and_two_pow_sub_one_eq_mod] at h1
  exact h1
/-- One bit of a division. -/
theorem step177 (A b q r i left : Nat) (hb : 0 < b) (hA : (dg 1073741824 A).length = left + 0) (hlen : (dg 1073741824 A).length < 10000000) (hlb : (dg 1073741824 b).length ≤ (dg 1073741824 A).length) (hi : i < 30 * (dg 1073741824 A).length) (h : A / 2 ^ (i + 1) = q * b + r) (hr : r < b) (vq vr : AV) (σ σ1 σ2 : St)
    (c1 : callI TT 144 [vq, SB 2] σ = some (SB (q * 2), σ1)) (c2 : callI TT 144 [vr, SB 2] σ1 = some (SB (r * 2), σ2)) :
    ∃ q' r', A / 2 ^ i = q' * b + r' ∧ r' < b ∧ exI TT (FI.of Try.f177 (TT.an 177)) K177_0 [(0, SB A), (1, SB b), (6, vq), (8, vr), (9, SB 2), (10, SB 1), (11, .int .i64 i)] σ = exI TT (FI.of Try.f177 (TT.an 177)) K177_0 [(0, SB A), (1, SB b), (6, SB q'), (8, SB r'), (9, SB 2), (10, SB 1), (11, .int .i64 ((i : Int) - 1))] σ2 := by
  obtain ⟨bs1, bs2⟩ := bit_step hb h hr
  have hvb := val_bit (w := 30) (dg 1073741824 A) i (dg_Dg (by decide) A) (by decide)
  rw [show (2 : Nat) ^ 30 = 1073741824 from rfl, val_dg (by decide)] at hvb
  have hi30 : i / 30 < (dg 1073741824 A).length := by omega
  have r1 := fun σ : St => lp_dg (σ := σ) (k := .i64) (l := dg 1073741824 A) (i := i / 30) hi30
  have hx := at1_lt (B := 1073741824) (by decide) (dg_Dg (B := 1073741824) (by decide) A) (i / 30)
  have hs1 : shrA ((at1 (dg 1073741824 A) (i / 30) : Nat) : Int) (min (i % 30) IntKind.i64.bits) = ((at1 (dg 1073741824 A) (i / 30) / 2 ^ (i % 30) : Nat) : Int) := by
    rw [Nat.min_eq_left (by simp [IntKind.bits]; omega)]; rfl
  have hy : at1 (dg 1073741824 A) (i / 30) / 2 ^ (i % 30) ≤ 9223372036854775807 := Nat.le_trans (Nat.div_le_self _ _) (by omega)
  have b1 := and1i hy
  rw [← hvb] at b1
  have d1 : (i : Int).tdiv 30 = ((i / 30 : Nat) : Int) := rfl
  have m1 : (i : Int).tmod 30 = ((i % 30 : Nat) : Int) := rfl
  have w1 : wrapA .i64 ((i / 30 : Nat) : Int) = ((i / 30 : Nat) : Int) := wi64 (by omega)
  have w2 : wrapA .u64 ((i % 30 : Nat) : Int) = ((i % 30 : Nat) : Int) := w64 (by omega)
  have hw : wrapA .i64 ((i : Int) - 1) = (i : Int) - 1 := wrapA_id (by omega) (by omega)
  have lr : (dg 1073741824 (2 * r + 1)).length ≤ (dg 1073741824 A).length + 1 := by
    refine dg_len_le (by decide) ?_
    have h1 := lt_dg_len (B := 1073741824) (by decide) b
    have h2 : 1073741824 ^ (dg 1073741824 b).length ≤ 1073741824 ^ (dg 1073741824 A).length := Nat.pow_le_pow_right (by decide) hlb
    rw [Nat.pow_succ]; omega
  have hqA : q ≤ A := by
    have h1 : q ≤ q * b := Nat.le_mul_of_pos_right q hb
    have h2 := Nat.div_le_self A (2 ^ (i + 1))
    omega
  have lq : (dg 1073741824 (q * 2)).length ≤ (dg 1073741824 A).length + 1 := by
    refine dg_len_le (by decide) ?_
    have h1 := lt_dg_len (B := 1073741824) (by decide) A
    rw [Nat.pow_succ]; omega
  have lb2 : (dg 1073741824 (r * 2)).length ≤ (dg 1073741824 A).length + 1 := Nat.le_trans (dg_mono (by decide) (by omega)) lr
  have l1 : (dg 1073741824 1).length ≤ 1 := dg_len_le (by decide) (by decide)
  have bit2 : A / 2 ^ i % 2 < 2 := Nat.mod_lt _ (by decide)
  obtain ⟨bt, hbt⟩ : ∃ bt, A / 2 ^ i % 2 = bt := ⟨_, rfl⟩
  rw [hbt] at b1 bit2 bs1 bs2
  have hc6 := fun σ : St => (v179 (q * 2) 1 (by omega) (by omega)).pure σ rfl rfl
  rcases (show bt = 1 ∨ bt = 0 by omega) with rfl | rfl
  · have c3 := fun σ : St => (v179 (r * 2) 1 (by omega) (by omega)).pure σ rfl rfl
    have e : r * 2 + 1 = 2 * r + 1 := by omega
    rw [e] at c3
    have c4 := fun σ : St => v178 (2 * r + 1) b (by omega) (by omega) σ [SB (2 * r + 1), SB b] rfl
    by_cases hge : b ≤ 2 * r + 1
    · obtain ⟨k1, k2⟩ := bs1 hge
      have c5 := fun σ : St => (v180 (2 * r + 1) b hge (by omega)).pure σ rfl rfl
      refine ⟨2 * q + 1, 2 * r + 1 - b, k1, k2, ?_⟩
      rw [show 2 * q + 1 = q * 2 + 1 by omega]
      exact s177bs _ _ _ _ _ _ _ _ _ _ _ _ _ _ _ _ _ _ vq vr i _ _ _ _ _ σ σ1 σ2 c1 c2 d1 w1 hi30 r1 m1 w2 hs1 hw b1 c3 c4 (by unfold cmpN; rw [if_neg (by omega)]; split <;> decide) c5 hc6
    · refine ⟨2 * q, 2 * r + 1, bs2 (by omega), by omega, ?_⟩
      rw [show 2 * q = q * 2 by omega]
      exact s177bn _ _ _ _ _ _ _ 0 0 _ _ _ _ _ _ _ [] [] vq vr i _ _ _ _ _ σ σ1 σ2 c1 c2 d1 w1 hi30 r1 m1 w2 hs1 hw b1 c3 c4 (by unfold cmpN; rw [if_pos (by omega)]; decide)
  · have e : r * 2 = 2 * r + 0 := by omega
    rw [e] at c2 lb2
    have c4 := fun σ : St => v178 (2 * r + 0) b (by omega) (by omega) σ [SB (2 * r + 0), SB b] rfl
    by_cases hge : b ≤ 2 * r + 0
    · obtain ⟨k1, k2⟩ := bs1 hge
      have c5 := fun σ : St => (v180 (2 * r + 0) b hge (by omega)).pure σ rfl rfl
      refine ⟨2 * q + 1, 2 * r + 0 - b, k1, k2, ?_⟩
      rw [show 2 * q + 1 = q * 2 + 1 by omega]
      exact s177zs _ _ _ _ _ _ _ _ _ _ _ _ _ _ _ _ _ _ vq vr i _ _ _ _ _ σ σ1 σ2 c1 c2 d1 w1 hi30 r1 m1 w2 hs1 hw b1 rfl rfl c4 (by unfold cmpN; rw [if_neg (by omega)]; split <;> decide) c5 hc6
    · refine ⟨2 * q, 2 * r + 0, bs2 (by omega), by omega, ?_⟩
      rw [show 2 * q = q * 2 by omega]
      exact s177zn _ _ _ _ _ _ _ 0 0 _ _ _ _ _ _ _ [] [] vq vr i _ _ _ _ _ σ σ1 σ2 c1 c2 d1 w1 hi30 r1 m1 w2 hs1 hw b1 rfl rfl c4 (by unfold cmpN; rw [if_pos (by omega)]; decide)
theorem l177 (A b : Nat) (hb : 0 < b) (hlen : (dg 1073741824 A).length < 10000000) (hlb : (dg 1073741824 b).length ≤ (dg 1073741824 A).length) (σ : St) : ∀ (I q r : Nat), I ≤ 30 * (dg 1073741824 A).length → A / 2 ^ I = q * b + r → r < b →
    exI TT (FI.of Try.f177 (TT.an 177)) K177_0 [(0, SB A), (1, SB b), (6, SB q), (8, SB r), (9, SB 2), (10, SB 1), (11, .int .i64 ((I : Int) - 1))] σ = some (.tup [SB (A / b), SB (A % b)], σ) := by
  intro I
  induction I with
  | zero =>
    intro q r _ h hr
    rw [Nat.pow_zero, Nat.div_one] at h
    have h1 : A / b = q := by rw [h, Nat.mul_comm, Nat.mul_add_div hb, Nat.div_eq_of_lt hr, Nat.add_zero]
    have h2 : A % b = r := by rw [h, Nat.mul_comm, Nat.mul_add_mod, Nat.mod_eq_of_lt hr]
    rw [h1, h2]
    exact en177 _ _ _ _ _ _ _ _ _ _ σ
  | succ i ih =>
    intro q r hI h hr
    have hi1 : ((i + 1 : Nat) : Int) - 1 = (i : Int) := by omega
    rw [hi1]
    have hqA : q ≤ A := by
      have h1 : q ≤ q * b := Nat.le_mul_of_pos_right q hb
      have h2 := Nat.div_le_self A (2 ^ (i + 1))
      omega
    have lq := dg_mono (B := 1073741824) (by decide) hqA
    have lr := dg_mono (B := 1073741824) (by decide) (Nat.le_of_lt hr)
    have l2 : (dg 1073741824 2).length ≤ 1 := dg_len_le (by decide) (by decide)
    obtain ⟨q', r', k1, k2, k3⟩ := step177 A b q r i _ hb rfl hlen hlb (by omega) h hr (SB q) (SB r) σ σ σ ((v144 q 2 (by omega) (by omega)).pure σ rfl rfl) ((v144 r 2 (by omega) (by omega)).pure σ rfl rfl)
    rw [k3]
    exact ih q' r' (by omega) k1 k2
theorem sl_lst {σ : St} {a : List Nat} {n l : Nat} (hn : n = a.length) (hl : l ≤ n) : sliceA TT σ 97 (.lst n (dgs .i64 a)) (some (.int .i64 l)) none = some (.lst (n - l) (dgs .i64 (a.drop l))) := by
  simp only [sliceA, ty97, ty2, boundA]
  have e2 : (0 : Int) ≤ (l : Int) ∧ (l : Int) ≤ (n : Int) := by omega
  simp only [Int.toNat_natCast, e2, and_self, if_true, Nat.le_refl]
  rw [getCells_dgs (by omega), List.take_of_length_le (by simp; omega), Nat.mul_one]
theorem v177 (A b : Nat) (hb : 0 < b) (hlen : (dg 1073741824 A).length < 10000000) (hlen2 : (dg 1073741824 b).length < 10000000) : FnF TT 177 [SB A, SB b] (.tup [SB (A / b), SB (A % b)]) := by
  obtain ⟨σ1, h1⟩ : ∃ σ1, (⟨[], 0⟩ : St).push ⟨dgs .i64 [], 1, false⟩ = σ1 := ⟨_, rfl⟩
  obtain ⟨σ2, h2⟩ : ∃ σ2, σ1.push ⟨dgs .i64 [], 1, false⟩ = σ2 := ⟨_, rfl⟩
  have c1 := build_dgs0 (T := TT) (σ := ⟨[], 0⟩) (st := 97) (k := .i64) ty97 ty2
  have c2 := build_dgs0 (T := TT) (σ := σ1) (st := 97) (k := .i64) ty97 ty2
  have n1 : σ1.n = 1 := by subst h1; rfl
  have n2 : σ2.n = 2 := by subst h2; show σ1.n + 1 = 2; omega
  have g1 : σ2.get 1 = some ⟨dgs .i64 [], 1, false⟩ := by subst h2; rw [← n1]; exact get_push_same
  have g0 : σ2.get 0 = some ⟨dgs .i64 [], 1, false⟩ := by subst h2; rw [get_push_lt (by omega)]; subst h1; exact get_push_same
  rw [h1] at c1
  rw [h2, n1] at c2
  change buildSliceA TT ⟨[], 0⟩ 97 0 [] = some (.sl 0 0 0 0, σ1) at c1
  by_cases hlt : (dg 1073741824 A).length < (dg 1073741824 b).length
  · have hab := dg_len_lt (B := 1073741824) (by decide) hlt
    obtain ⟨v, σ3, a1, a2, a3, _⟩ := ap0 (w := dg 1073741824 A) (m := (dg 1073741824 A).length) g1 (by omega) rfl (by omega)
    rw [Nat.div_eq_of_lt hab, Nat.mod_eq_of_lt hab]
    have hk := bl177 (dg 1073741824 A).length (dg 1073741824 b).length (dg 1073741824 A) (dg 1073741824 b) v σ1 σ2 σ3 hlt c1 c2 a1
    refine FnF.mk (c := b177) fn177 rfl md177 ⟨σ3, _, hk, ?_⟩
    have hr0 : RowD σ3 0 .i64 (dg 1073741824 0) := ⟨false, by rw [a3 0 (by decide) (by omega)]; exact g0, by
      have := a3; rename_i hx; obtain ⟨b', c', _, hb', hr', _⟩ := hx
      have := hr'.lt; rcases hb' with rfl | rfl <;> omega⟩
    have f0 := hr0.frz (d := 3) (n := 0) (c := 0) (Nat.zero_le _) (Nat.le_refl _)
    show (match mapO (frzV σ3 5) [.sl 0 0 0 0, v] with | some l => some (AV.tup l) | none => none) = _
    have f1 : frzV σ3 5 v = some (SB A) := by
      rename_i hx; obtain ⟨b', c', rfl, hb', hr', hm'⟩ := hx
      have := hr'.frz (d := 3) (n := (dg 1073741824 A).length) (c := c') (Nat.le_refl _) hm'
      rw [List.take_of_length_le (Nat.le_refl _)] at this
      exact this
    rw [mapO_cons f0 (mapO_cons f1 rfl)]
    rfl
  · obtain ⟨left, hleft⟩ : ∃ left, (dg 1073741824 A).length - (dg 1073741824 b).length + 1 = left := ⟨_, rfl⟩
    have hb1 := (dg_len_pos (B := 1073741824) (by decide)).2 hb
    have hs := sl_lst (σ := σ2) (a := dg 1073741824 A) (l := left) rfl (by omega)
    obtain ⟨v, σ3, a1, a2, a3, b', c', rfl, hb', hr', hm'⟩ := ap0 (w := (dg 1073741824 A).drop left) (m := (dg 1073741824 A).length - left) g1 (by omega) (by simp) (by omega)
    have l2 : (dg 1073741824 2).length ≤ 1 := dg_len_le (by decide) (by decide)
    have hk := be177 (dg 1073741824 A).length (dg 1073741824 b).length (dg 1073741824 2).length (dg 1073741824 1).length left (left * 30) (dg 1073741824 A) (dg 1073741824 b) (dg 1073741824 2) (dg 1073741824 1) _ _ ((dg 1073741824 A).length - (dg 1073741824 b).length) σ1 σ2 σ3 (by omega) c1 (by rw [wrapA_id (by omega) (by omega)]; omega) (by rw [wrapA_id (by omega) (by omega)]; omega) c2 hs a1 (fun σ => (v145 2 (by decide)).pure σ rfl rfl) (fun σ => (v145 1 (by decide)).pure σ rfl rfl) (by rw [wrapA_id (by omega) (by omega)]; omega) (wrapA_id (by omega) (by omega))
    obtain ⟨i, hi⟩ : ∃ i, left * 30 = i + 1 := ⟨left * 30 - 1, by omega⟩
    have hpow : (2 : Nat) ^ (left * 30) = 1073741824 ^ left := by rw [Nat.mul_comm, Nat.pow_mul]
    have hd := val_drop (B := 1073741824) (by decide) (dg_Dg (by decide) A) left
    rw [val_dg (by decide)] at hd
    have hR : (dg 1073741824 A).drop left = dg 1073741824 (A / 1073741824 ^ left) := by
      have h3 := trim_dg (B := 1073741824) (by decide) (Dg_drop (dg_Dg (B := 1073741824) (by decide) A) left)
      have hc : can ((dg 1073741824 A).drop left) := by
        have hcA : can (dg 1073741824 A) := by
          have h2 := trim_dg (B := 1073741824) (by decide) (dg_Dg (by decide) A)
          rw [val_dg (by decide)] at h2
          rw [← h2]; exact trimL_can _
        have : ∀ (n : Nat) (l : List Nat), can l → can (l.drop n) := fun n => by
          induction n with
          | zero => intro l h; exact h
          | succ n ih =>
            intro l h
            cases l with
            | nil => exact h
            | cons x r => exact ih r (can_tail h)
        exact this left _ hcA
      rw [dg_uniq (by decide) (Dg_drop (dg_Dg (by decide) A) left) hc, hd]
    have hRb : A / 1073741824 ^ left < b := by
      have h4 : A / 1073741824 ^ left < 1073741824 ^ ((dg 1073741824 b).length - 1) := by
        rw [Nat.div_lt_iff_lt_mul (Nat.pow_pos (by decide)), ← Nat.pow_add]
        have := lt_dg_len (B := 1073741824) (by decide) A
        rw [show (dg 1073741824 b).length - 1 + left = (dg 1073741824 A).length by omega]
        exact this
      refine Nat.lt_of_lt_of_le h4 (Nat.le_of_not_lt fun h5 => ?_)
      have := dg_len_le (B := 1073741824) (by decide) h5
      omega
    have hn3 : σ3.n = σ3.n := rfl
    have hr0 : RowD σ3 0 .i64 [] := ⟨false, by rw [a3 0 (by decide) (by omega)]; exact g0, by have := hr'.lt; rcases hb' with rfl | rfl <;> omega⟩
    have hb0 : b' ≠ 0 := by rcases hb' with rfl | rfl <;> omega
    have t1 := v144 0 2 (by rw [dg_zero]; decide) (by omega)
    rw [show SB 0 = .lst 0 (dgs .i64 (([] : List Nat).take 0)) from rfl] at t1
    obtain ⟨σ4, e1, u1⟩ := row2 (c := 0) (w := .und) t1 hr0 (Nat.le_refl _) (Nat.le_refl _)
    have hlR : (dg 1073741824 (A / 1073741824 ^ left)).length = (dg 1073741824 A).length - left := by rw [← hR]; simp
    have t2 := v144 (A / 1073741824 ^ left) 2 (by omega) (by omega)
    rw [show SB (A / 1073741824 ^ left) = .lst ((dg 1073741824 A).length - left) (dgs .i64 (((dg 1073741824 A).drop left).take ((dg 1073741824 A).length - left))) by rw [SB, hlR, hR, List.take_of_length_le (by omega)]] at t2
    obtain ⟨σ5, e2, _⟩ := row2 (c := c') (w := .und) t2 (hr'.but hb0 u1) (by simp) hm'
    obtain ⟨q', r', k1, k2, k3⟩ := step177 A b 0 (A / 1073741824 ^ left) i _ hb rfl hlen (by omega) (by omega) (by rw [← hi, hpow]; omega) hRb _ _ σ3 σ4 σ5 (by exact e1) e2
    have hfin := l177 A b hb hlen (by omega) σ5 i q' r' (by omega) k1 k2
    have hk2 : ((left * 30 : Nat) : Int) - 1 = (i : Int) := by omega
    rw [hk2] at hk
    refine FnF.mkv (c := b177) fn177 rfl md177 ⟨σ5, ?_⟩ (fun _ => rfl)
    rw [← hfin, ← k3]
    exact hk

noncomputable def b140 : Code := Try.f140.body.getD .skip
noncomputable def B140_0 : Code := (bodyC (bodyC (sndC (fstC (sndC (sndC (sndC b140)))))))
noncomputable def K140_0 : List It := .lp B140_0 :: .blk 0 :: .code (sndC (sndC (sndC (sndC b140)))) :: []
theorem xl140_0 {fi : FI} {env : Env} {σ : St} : exI TT fi K140_0 env σ = exI TT fi (.code B140_0 :: K140_0) env σ := by unfold K140_0; exact xI_lp
noncomputable def R140_0_0 : List It := .code (sndC (sndC (sndC (sndC b140)))) :: []
theorem eK140_0_0 : exitA 0 K140_0 = some R140_0_0 := rfl
theorem st140 (l : List Nat) (len i x c j c2 : Nat) (hi : i < len) (r1 : ∀ σ : St, cellsAt σ (.lp (dgs .i64 l) i) 1 = some [.int .i64 (x : Int)]) (hs : shlA (c : Int) (min 30 IntKind.i64.bits) = (j : Int)) (w1 : wrapA .i64 (j : Int) = (j : Int)) (ho : bitsA .or .i64 (j : Int) (x : Int) = some (.int .i64 (c2 : Int))) (hw : wrapA .i64 ((i : Int) - 1) = (i : Int) - 1) (σ : St) :
    exI TT (FI.of Try.f140 (TT.an 140)) K140_0 [(0, .lst len (dgs .i64 l)), (4, .int .i64 c), (5, .int .i64 i)] σ = exI TT (FI.of Try.f140 (TT.an 140)) K140_0 [(0, .lst len (dgs .i64 l)), (4, .int .i64 c2), (5, .int .i64 ((i : Int) - 1))] σ := by
  have hi0 : (0 : Int) ≤ (i : Int) := by omega
  rw [fi140]
  conv => lhs; rw [xl140_0]
  simp only [B140_0, b140, Try.f140, Option.getD, fstC, sndC, bodyC, thnC, elsC]
  simp (maxSteps := 1000000) (disch := omega) [eK140_0_0, r1, hs, w1, ho, hw]
theorem en140 (l : List Nat) (len c : Nat) (σ : St) : exI TT (FI.of Try.f140 (TT.an 140)) K140_0 [(0, .lst len (dgs .i64 l)), (4, .int .i64 c), (5, .int .i64 (-1))] σ = some (.tup [.int .i64 c, .bool true], σ) := by
  rw [fi140, xl140_0]
  simp only [B140_0, b140, Try.f140, Option.getD, fstC, sndC, bodyC, thnC, elsC]
  simp (maxSteps := 1000000) (disch := omega) [eK140_0_0]
  simp only [R140_0_0, b140, Try.f140, Option.getD, fstC, sndC, bodyC, thnC, elsC]
  simp (maxSteps := 1000000) (disch := omega) [eK140_0_0]
theorem bl140 (l : List Nat) (len : Nat) (h : 2 < len) (σ : St) : exI TT (FI.of Try.f140 (TT.an 140)) [.code b140] (paramsE 0 [.lst len (dgs .i64 l)]) σ = some (.tup [.int .i64 0, .bool false], σ) := by
  have h2 : (2 : Int) < (len : Int) := by omega
  rw [fi140]
  simp only [b140, Try.f140, Option.getD, fstC, sndC, bodyC, thnC, elsC]
  simp (maxSteps := 1000000) (disch := omega) [eK140_0_0]
theorem bg140 (l lm : List Nat) (len nm_ : Nat) (z : Int) (h : len ≤ 2) (c1 : ∀ σ, callI TT 145 [.int .i64 1000000000000000000] σ = some (.lst nm_ (dgs .i64 lm), σ)) (c2 : ∀ σ, callI TT 178 [.lst len (dgs .i64 l), .lst nm_ (dgs .i64 lm)] σ = some (.int .i64 z, σ)) (hz : 0 < z) (σ : St) : exI TT (FI.of Try.f140 (TT.an 140)) [.code b140] (paramsE 0 [.lst len (dgs .i64 l)]) σ = some (.tup [.int .i64 0, .bool false], σ) := by
  have h2 : (len : Int) ≤ (2 : Int) := by omega
  rw [fi140]
  simp only [b140, Try.f140, Option.getD, fstC, sndC, bodyC, thnC, elsC]
  simp (maxSteps := 1000000) (disch := omega) [eK140_0_0, c1, c2]
theorem be140 (l lm : List Nat) (len nm_ : Nat) (z : Int) (h : len ≤ 2) (c1 : ∀ σ, callI TT 145 [.int .i64 1000000000000000000] σ = some (.lst nm_ (dgs .i64 lm), σ)) (c2 : ∀ σ, callI TT 178 [.lst len (dgs .i64 l), .lst nm_ (dgs .i64 lm)] σ = some (.int .i64 z, σ)) (hz : z ≤ 0) (hw : wrapA .i64 ((len : Int) - 1) = (len : Int) - 1) (σ : St) : exI TT (FI.of Try.f140 (TT.an 140)) [.code b140] (paramsE 0 [.lst len (dgs .i64 l)]) σ = exI TT (FI.of Try.f140 (TT.an 140)) K140_0 [(0, .lst len (dgs .i64 l)), (4, .int .i64 0), (5, .int .i64 ((len : Int) - 1))] σ := by
  have h2 : (len : Int) ≤ (2 : Int) := by omega
  rw [fi140]
  simp only [b140, Try.f140, Option.getD, fstC, sndC, bodyC, thnC, elsC]
  simp (maxSteps := 1000000) (disch := omega) [eK140_0_0, c1, c2, hw]
  rfl
theorem or_30 {c d : Nat} (hc : c < 1073741824) (hd : d < 1073741824) : bitsA .or .i64 ((c * 1073741824 : Nat) : Int) (d : Int) = some (.int .i64 ((c * 1073741824 + d : Nat) : Int)) := by
  have hcc : c * 1073741824 ≤ 1152921503533105152 := Nat.mul_le_mul_right 1073741824 (show c ≤ 1073741823 by omega)
  have h1 := w_or .i64 (a := c * 1073741824) (b := d) (Nat.le_trans hcc (by decide)) (by simp only [topOf]; omega)
  have h2 := Nat.two_pow_add_eq_or_of_lt (i := 30) (b := d) (by simpa using hd) c
  rw [show (2 : Nat) ^ 30 = 1073741824 from rfl, Nat.mul_comm 1073741824 c] at h2
  rw [← h2] at h1
  exact h1
theorem v140 (n : Nat) (hn : (dg 1073741824 n).length < 1000000000) : FnV TT 140 [SB n] (if n ≤ 1000000000000000000 then .tup [.int .i64 n, .bool true] else .tup [.int .i64 0, .bool false]) := by
  refine FnV.mk (c := b140) fn140 rfl md140 ⟨⟨[], 0⟩, ?_⟩ (fun σ => by split <;> rfl) (by split <;> rfl)
  by_cases hl : (dg 1073741824 n).length ≤ 2
  · have c1 := fun σ : St => (v145 1000000000000000000 (by decide)).pure σ rfl rfl
    have hlm : (dg 1073741824 1000000000000000000).length ≤ 2 := dg_len_le (by decide) (by decide)
    have c2 := fun σ : St => v178 n 1000000000000000000 (by omega) (by omega) σ [SB n, SB 1000000000000000000] rfl
    by_cases hle : n ≤ 1000000000000000000
    · rw [if_pos hle]
      have hb := be140 (dg 1073741824 n) _ (dg 1073741824 n).length _ _ hl c1 c2 (by unfold cmpN; split; decide; rw [if_neg (by omega)]; decide) (wrapA_id (by omega) (by omega)) ⟨[], 0⟩
      refine hb.trans ?_
      have hd := dg_Dg (B := 1073741824) (by decide) n
      have hv := val_dg (B := 1073741824) (by decide) n
      match hq : dg 1073741824 n, hl with
      | [], _ =>
        rw [hq] at hv
        obtain rfl : n = 0 := by rw [← hv]; rfl
        exact en140 [] 0 0 _
      | [a], _ =>
        rw [hq] at hv hd
        have ha : a < 1073741824 := hd a (by simp)
        obtain rfl : n = a := by rw [← hv]; simp [val]
        have ho := or_30 (c := 0) (d := n) (by decide) ha
        have s1 := st140 [n] 1 0 n 0 0 n (by decide) (fun σ => lp_dg (l := [n]) (by simp)) rfl (by decide) (by simpa using ho) (by decide) ⟨[], 0⟩
        exact s1.trans (en140 [n] 1 n _)
      | [a, b], _ =>
        rw [hq] at hv hd
        have ha : a < 1073741824 := hd a (by simp)
        have hb2 : b < 1073741824 := hd b (by simp)
        have ho := or_30 (c := 0) (d := b) (by decide) hb2
        have ho2 := or_30 (c := b) (d := a) hb2 ha
        have hv2 : b * 1073741824 + a = n := by rw [← hv]; simp [val]; omega
        have hcc : b * 1073741824 ≤ 1152921503533105152 := Nat.mul_le_mul_right 1073741824 (show b ≤ 1073741823 by omega)
        have hsh : shlA (b : Int) (min 30 IntKind.i64.bits) = ((b * 1073741824 : Nat) : Int) := rfl
        rw [hv2] at ho2
        have w1 : wrapA .i64 ((b * 1073741824 : Nat) : Int) = ((b * 1073741824 : Nat) : Int) := wi64 (Nat.le_trans hcc (by decide))
        clear hv2 hv hcc
        have s1 := st140 [a, b] 2 1 b 0 0 b (by decide) (fun σ => lp_dg (l := [a, b]) (by simp)) rfl (by decide) (by simpa using ho) (by decide) ⟨[], 0⟩
        have s2 := st140 [a, b] 2 0 a b (b * 1073741824) n (by decide) (fun σ => lp_dg (l := [a, b]) (by simp)) hsh w1 ho2 (by decide) ⟨[], 0⟩
        exact s1.trans (s2.trans (en140 [a, b] 2 n _))
    · rw [if_neg hle]
      exact bg140 (dg 1073741824 n) _ (dg 1073741824 n).length _ _ hl c1 c2 (by unfold cmpN; rw [if_neg (by omega), if_pos (by omega)]; decide) _
  · have : ¬ n ≤ 1000000000000000000 := fun h => hl (dg_len_le (by decide) (Nat.lt_of_le_of_lt h (by decide)))
    rw [if_neg this]
    exact bl140 _ _ (by omega) _

end Go.Proofs.Ytihoeimlkbjgmaa
