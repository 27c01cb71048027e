/- Numbers of any size, fractions, chances: contracts. Nothing is claimed here; no condition. -/
import Derived.Test.YtjecbjnckbihoaaDoorQa
set_option linter.unusedSimpArgs false
set_option linter.unusedVariables false
namespace Go.Proofs.YtjecbjnckbihoaaDoor
open Go Go.Abs Go.Nm
attribute [local simp] xI_seq xI_region xI_ret regA regOps runOps opStep wantedA opA evo evos calleeA lk nif_eq putE paramsE valS val2 keepE restrict finA resA binA binInt ofConst ofConst1 loadA TK.isAgg asVar unA builtinA lenOpA lenA indexAddrA evPairs storeA AV.cellsOf pairsOf xI_nil binBool gcE evOpt runTr pairsOk pairOk sameVal AV.eqv lastOf lstAt eqvs boundA indexA regF twoOf prsOf memI runTrF selF runTr2 freshOp scals AV.scal tagZ isI64 pureLd loadP boxP xI_block xI_loopH xI_condM xI_exitM xI_skip xI_blk exitA List.getElem?_cons_zero List.getElem?_cons_succ List.getElem?_toArray List.getElem?_nil ileb_t ileb_f ieqb_t ieqb_f inB_t wrapA_id lp_read ieqb_self Nat.blt_eq cond_true cond_false ty2 ty3 ty4 ty31 ty41 ty43 ty73 ty74
noncomputable def b64 : Code := Tryd.f64.body.getD .skip
noncomputable def B64_0 : Code := (bodyC (bodyC (sndC (fstC (sndC (sndC b64))))))
noncomputable def K64_0 : List It := .lp B64_0 :: .blk 0 :: .code (sndC (sndC (sndC b64))) :: []
theorem xl64_0 {fi : FI} {env : Env} {σ : St} : exI TT fi K64_0 env σ = exI TT fi (.code B64_0 :: K64_0) env σ := by unfold K64_0; exact xI_lp
noncomputable def R64_0_0 : List It := .code (sndC (sndC (sndC b64))) :: []
theorem eK64_0_0 : exitA 0 K64_0 = some R64_0_0 := rfl
theorem or_dig {c d : Nat} (hc : c < 4294967296) (hd : d < 4294967296) : bitsA .or .u64 ((c * 4294967296 : Nat) : Int) (d : Int) = some (.int .u64 ((c * 4294967296 + d : Nat) : Int)) := or_low hc hd
theorem and_low64 (t s : Nat) (ht : t ≤ 18446744073709551615) (hs : s ≤ 32) : bitsA .and .u64 (t : Int) ((2 ^ s - 1 : Nat) : Int) = some (.int .u64 ((t % 2 ^ s : Nat) : Int)) := by
  have hp : 2 ^ s ≤ 2 ^ 32 := Nat.pow_le_pow_right (by decide) hs
  have h1 := w_and .u64 (a := t) (b := 2 ^ s - 1) ht (by simp only [topOf]; omega)
  rw [Nat.and_two_pow_sub_one_eq_mod] at h1
  exact h1
theorem st64 (a : List Nat) (la s r c m x t0 t q w P P1 cc : Nat) (σ σ1 : St) (r1 : ∀ σ : St, cellsAt σ (.lp (dgs .u32 a) m) 1 = some [.int .u32 (x : Int)]) (hil : m < la) (hla : la < 100000000000)
    (c1 : wrapA .u64 (x : Int) = (x : Int)) (c2 : shlA (c : Int) (min 32 IntKind.u64.bits) = (t0 : Int)) (c3 : wrapA .u64 (t0 : Int) = (t0 : Int)) (c4 : bitsA .or .u64 (t0 : Int) (x : Int) = some (.int .u64 (t : Int)))
    (c5 : shrA (t : Int) (min s IntKind.u64.bits) = (q : Int)) (c6 : wrapA .u32 (q : Int) = (w : Int)) (c7 : shlA (1 : Int) (min s IntKind.u64.bits) = (P : Int)) (c8 : wrapA .u64 (P : Int) = (P : Int)) (c9 : wrapA .u64 ((P : Int) - 1) = (P1 : Int))
    (c10 : bitsA .and .u64 (t : Int) (P1 : Int) = some (.int .u64 (cc : Int))) (s1 : storeCellsA σ r m [.int .u32 (w : Int)] = some σ1) :
    exI TT (FI.of Tryd.f64 (TT.an 64)) K64_0 [(0, .lst la (dgs .u32 a)), (1, .int .i64 s), (6, .sl r 0 la la), (7, .int .u64 c), (8, .int .i64 m)] σ = exI TT (FI.of Tryd.f64 (TT.an 64)) K64_0 [(0, .lst la (dgs .u32 a)), (1, .int .i64 s), (6, .sl r 0 la la), (7, .int .u64 cc), (8, .int .i64 ((m : Int) - 1))] σ1 := by
  have hw : wrapA .i64 ((m : Int) - 1) = (m : Int) - 1 := wrapA_id (by omega) (by omega)
  have hpos : (0 : Int) ≤ (m : Int) := by omega
  rw [fi64]
  conv => lhs; rw [xl64_0]
  simp only [B64_0, b64, Tryd.f64, Option.getD, fstC, sndC, bodyC, thnC, elsC]
  simp (maxSteps := 1000000) (disch := omega) [eK64_0_0, r1, convA, c1, c2, c3, c4, c5, c6, c7, c8, c9, c10, hw, s1]
set_option maxHeartbeats 2000000 in
theorem l64 (a : List Nat) (la s : Nat) (ha : la = a.length) (da : Dg 4294967296 a) (hs : s < 32) (hla : la < 100000000000) (r : Nat) : ∀ (m c : Nat) (suf : List Nat) (σ : St), m ≤ la → c < 2 ^ s → Dg 4294967296 suf → m + suf.length = la → RowD σ r .u32 (List.replicate m 0 ++ suf) →
    ∃ σ', exI TT (FI.of Tryd.f64 (TT.an 64)) K64_0 [(0, .lst la (dgs .u32 a)), (1, .int .i64 s), (6, .sl r 0 la la), (7, .int .u64 c), (8, .int .i64 ((m : Int) - 1))] σ = some (.tup [.int .u32 ((downG 4294967296 s a m c).2 : Nat), NA (val 4294967296 ((downG 4294967296 s a m c).1 ++ suf))], σ') := by
  have hP : 2 ^ s ≤ 2 ^ 31 := Nat.pow_le_pow_right (by decide) (by omega)
  have hP0 := Nat.two_pow_pos s
  intro m
  induction m with
  | zero =>
    intro c suf σ hm hc hd hl hr
    obtain rfl : la = suf.length := by omega
    have hr' : RowD σ r .u32 suf := by simpa using hr
    obtain ⟨σ2, e1, _⟩ := t51 (len := suf.length) (cap := suf.length) rfl (by omega) (Nat.le_refl _) hr' hd
    have c7 : wrapA .u32 (c : Int) = (c : Int) := wrap32_id (by omega) (by omega)
    refine ⟨σ2, ?_⟩
    simp only [downG, List.nil_append]
    generalize suf.length = l1 at *
    rw [fi64, xl64_0]
    simp only [B64_0, b64, Tryd.f64, Option.getD, fstC, sndC, bodyC, thnC, elsC]
    simp (maxSteps := 1000000) (disch := omega) [eK64_0_0]
    simp only [R64_0_0, b64, Tryd.f64, Option.getD, fstC, sndC, bodyC, thnC, elsC]
    simp (maxSteps := 1000000) (disch := omega) [eK64_0_0, e1, c7, convA]
  | succ m ih =>
    intro c suf σ hm hc hd hl hr
    have h1 := at1_lt (B := 4294967296) (by decide) da m
    have hq : (c * 4294967296 + at1 a m) / 2 ^ s < 4294967296 := by
      rw [Nat.div_lt_iff_lt_mul hP0]
      have : (c + 1) * 4294967296 ≤ 2 ^ s * 4294967296 := Nat.mul_le_mul_right _ hc
      rw [Nat.mul_comm 4294967296]; omega
    obtain ⟨σ1, s1, q1, u1⟩ := RowD.st hr (i := m) (by simp; omega) ((c * 4294967296 + at1 a m) / 2 ^ s % 4294967296)
    have hset : (List.replicate (m + 1) 0 ++ suf).set m ((c * 4294967296 + at1 a m) / 2 ^ s % 4294967296) = List.replicate m 0 ++ ((c * 4294967296 + at1 a m) / 2 ^ s % 4294967296) :: suf := by
      rw [List.replicate_succ', List.append_assoc]
      have h3 : ((List.replicate m 0) ++ ([0] ++ suf)).set m ((c * 4294967296 + at1 a m) / 2 ^ s % 4294967296) = List.replicate m 0 ++ ((c * 4294967296 + at1 a m) / 2 ^ s % 4294967296) :: suf := by simp
      exact h3
    rw [hset] at q1
    obtain ⟨σ', k1⟩ := ih ((c * 4294967296 + at1 a m) % 2 ^ s) (((c * 4294967296 + at1 a m) / 2 ^ s % 4294967296) :: suf) σ1 (by omega) (Nat.mod_lt _ hP0) (fun x hx => by
      rcases List.mem_cons.1 hx with rfl | hx
      · exact Nat.mod_lt _ (by decide)
      · exact hd x hx) (by simp; omega) q1
    have happ : (downG 4294967296 s a (m + 1) c).1 ++ suf = (downG 4294967296 s a m ((c * 4294967296 + at1 a m) % 2 ^ s)).1 ++ ((c * 4294967296 + at1 a m) / 2 ^ s % 4294967296) :: suf := by rw [downG]; simp
    rw [happ, show (downG 4294967296 s a (m + 1) c).2 = (downG 4294967296 s a m ((c * 4294967296 + at1 a m) % 2 ^ s)).2 from by rw [downG]]
    refine ⟨σ', ?_⟩
    rw [← k1]
    have hw0 : ((m + 1 : Nat) : Int) - 1 = (m : Int) := by omega
    have r1 := fun σ => lp_dg (σ := σ) (k := .u32) (l := a) (i := m) (by omega)
    have htm : c * 4294967296 + at1 a m ≤ 18446744073709551615 := by omega
    have htm2 : c * 4294967296 ≤ 18446744073709551615 := Nat.le_trans (Nat.le_add_right _ _) htm
    have c1 : wrapA .u64 ((at1 a m : Nat) : Int) = ((at1 a m : Nat) : Int) := wrap64_id (by omega) (by omega)
    have c2 := shlU32 c
    have c3 : wrapA .u64 ((c * 4294967296 : Nat) : Int) = ((c * 4294967296 : Nat) : Int) := wrap64_id (by omega) (Int.ofNat_le.2 htm2)
    have c4 := or_dig (c := c) (d := at1 a m) (by omega) h1
    have c5 : shrA ((c * 4294967296 + at1 a m : Nat) : Int) (min s IntKind.u64.bits) = (((c * 4294967296 + at1 a m) / 2 ^ s : Nat) : Int) := by rw [Nat.min_eq_left (by simp [IntKind.bits]; omega)]; rfl
    have c6 := wrap32 ((c * 4294967296 + at1 a m) / 2 ^ s)
    have c7 : shlA (1 : Int) (min s IntKind.u64.bits) = ((2 ^ s : Nat) : Int) := by
      rw [Nat.min_eq_left (by simp [IntKind.bits]; omega)]
      show ((1 * 2 ^ s : Nat) : Int) = _
      rw [Nat.one_mul]
    have c8 : wrapA .u64 ((2 ^ s : Nat) : Int) = ((2 ^ s : Nat) : Int) := wrap64_id (by omega) (by omega)
    have c9 : wrapA .u64 (((2 ^ s : Nat) : Int) - 1) = ((2 ^ s - 1 : Nat) : Int) := by rw [wrap64_id (by omega) (by omega)]; omega
    have c10 := and_low64 (c * 4294967296 + at1 a m) s htm (by omega)
    rw [hw0]
    exact st64 a la s r c m _ _ _ _ _ _ _ _ σ σ1 r1 (by omega) hla c1 c2 c3 c4 c5 c6 c7 c8 c9 c10 s1
theorem v64 (x s : Nat) (hs : s < 32) (hx : (dg 4294967296 x).length < 100000000000) : ∃ c : Nat, FnF TT 64 [NA x, .int .i64 s] (.tup [.int .u32 c, NA (x / 2 ^ s)]) := by
  obtain ⟨d1, d2⟩ := down_dg (s := s) (B := 4294967296) (by decide) (dg_Dg (by decide) x)
  rw [val_dg (by decide)] at d2
  obtain ⟨σ1, h1⟩ := l64 (dg 4294967296 x) (dg 4294967296 x).length s rfl (dg_Dg (by decide) x) hs hx 0 (dg 4294967296 x).length 0 [] ((⟨[], 0⟩ : St).push ⟨dgs .u32 (List.replicate (dg 4294967296 x).length 0), 1, false⟩) (Nat.le_refl _) (Nat.two_pow_pos s) (fun d hd => by simp at hd) rfl (by simpa using RowA.push)
  rw [List.append_nil, d2] at h1
  refine ⟨(downG 4294967296 s (dg 4294967296 x) (dg 4294967296 x).length 0).2, FnF.mkv fn64 rfl md64 ⟨σ1, ?_⟩ (fun _ => rfl)⟩
  rw [← h1]
  have hm := mkU (⟨[], 0⟩ : St) (dg 4294967296 x).length (by omega)
  have hw : wrapA .i64 (((dg 4294967296 x).length : Int) - 1) = ((dg 4294967296 x).length : Int) - 1 := wrapA_id (by omega) (by omega)
  simp only [NA]
  generalize (dg 4294967296 x).length = l1 at *
  clear h1
  rw [fi64]
  simp (maxSteps := 1000000) (disch := omega) [eK64_0_0, hm, hw]
  rfl

/-- A copy of a part of a row. -/
theorem n63 {σ : St} {b off n cap : Nat} {l w : List Nat} (hr : RowD σ b .u32 l) (hn : off + n ≤ l.length) (hc : n ≤ cap) (hpos : 0 < n) (hs : n < 100000000000) (hw : (l.drop off).take n = w) :
    ∃ o, callI TT 63 [.sl b off n cap] σ = some (.sl σ.n 0 n n, σ.push ⟨dgs .u32 w, 1, o⟩) := by
  refine own_row fn63 rfl md63 (mapO_cons (hr.frzAt hn hc) rfl) ?_
  rw [hw]
  obtain ⟨m, rfl⟩ : ∃ m, n = m + 1 := ⟨n - 1, by omega⟩
  have hwl : w.length = m + 1 := by rw [← hw]; simp; omega
  refine ⟨((⟨[], 0⟩ : St).push ⟨dgs .u32 [], 1, false⟩).push ⟨dgs .u32 w, 1, true⟩, 1, ?_, RowA.push⟩
  have hb := build_dgs0 (T := TT) (σ := ⟨[], 0⟩) (st := 41) (k := .u32) ty41 ty74
  obtain ⟨σ1, hσ⟩ : ∃ σ1, (⟨[], 0⟩ : St).push ⟨dgs .u32 [], 1, false⟩ = σ1 := ⟨_, rfl⟩
  rw [hσ] at hb ⊢
  have ha : appendA TT σ1 41 41 (.sl 0 0 0 0) (.lst (m + 1) (dgs .u32 w)) = some (.sl 1 0 (m + 1) (m + 1), σ1.push ⟨dgs .u32 w, 1, true⟩) := by
    have hf : firstA σ1 1 (m + 1) (.lst (m + 1) (dgs .u32 w)) = some (dgs .u32 w) := by
      show getCells (dgs .u32 w) 0 ((m + 1) * 1) = _
      rw [getCells_dgs (by omega), List.drop_zero, List.take_of_length_le (by omega)]
    have hg : σ1.get 0 = some ⟨dgs .u32 [], 1, false⟩ := by subst hσ; exact get_push_same
    have hg0 : getCells (dgs .u32 []) 0 (0 * 1) = some [] := rfl
    unfold appendA
    simp only [ty41, ty74, lenA, hf, allOne_dgs, hg, hg0]
    rw [if_neg (by simp), if_neg (by omega), if_pos ⟨by omega, by omega, trivial, by simp [dgs], by decide⟩]
    subst hσ
    simp [n_push, growE]
  have he : eqNil (.slice 74) (.lst (m + 1) (dgs .u32 w)) .nilS = some false := rfl
  generalize m + 1 = n1 at *
  rw [fi63]
  simp (maxSteps := 1000000) (disch := omega) [binNil, he, hb, ha]

noncomputable def b33 : Code := Tryd.f33.body.getD .skip
noncomputable def B33_0 : Code := (bodyC (bodyC (sndC (fstC (sndC (sndC (sndC b33)))))))
noncomputable def K33_0 : List It := .lp B33_0 :: .blk 0 :: .code (sndC (sndC (sndC (sndC b33)))) :: []
theorem xl33_0 {fi : FI} {env : Env} {σ : St} : exI TT fi K33_0 env σ = exI TT fi (.code B33_0 :: K33_0) env σ := by unfold K33_0; exact xI_lp
noncomputable def R33_0_0 : List It := .code (sndC (sndC (sndC (sndC b33)))) :: []
theorem eK33_0_0 : exitA 0 K33_0 = some R33_0_0 := rfl
theorem or_up {c d : Nat} (hc : c < 4294967296) (hd : d < 4294967296) : bitsA .or .u64 (c : Int) ((d * 4294967296 : Nat) : Int) = some (.int .u64 ((c + d * 4294967296 : Nat) : Int)) := by
  have h := or_shift (c := c) (x := d) (s := 32) hc (Nat.le_refl _) hd
  rw [show (2 : Nat) ^ 32 = 4294967296 from rfl, Nat.add_comm] at h
  exact h
theorem and_top {t : Nat} (ht : t ≤ 18446744073709551615) : bitsA .and .u64 (t : Int) 9223372036854775807 = some (.int .u64 ((t % 9223372036854775808 : Nat) : Int)) := by
  have h1 := w_and .u64 (a := t) (b := 9223372036854775807) ht (by decide)
  rw [show (9223372036854775807 : Nat) = 2 ^ 63 - 1 from rfl, Nat.and_two_pow_sub_one_eq_mod] at h1
  exact h1
set_option maxHeartbeats 1000000 in
theorem st33 (l : List Nat) (len i x c j y c2 : Nat) (hlen : len = l.length) (hi : i < len) (hl : len ≤ 2) (hx : at1 l i = x) (hxb : x < 4294967296) (hj : 32 * i = j) (hsh : shlA (x : Int) (min j IntKind.u64.bits) = (y : Int)) (hy : y ≤ 18446744073709551615) (ho : bitsA .or .u64 (c : Int) (y : Int) = some (.int .u64 (c2 : Nat))) (σ : St) :
    exI TT (FI.of Tryd.f33 (TT.an 33)) K33_0 [(4, .int .u64 c), (10, .lst len (dgs .u32 l)), (11, .int .i64 len), (12, .int .i64 i)] σ = exI TT (FI.of Tryd.f33 (TT.an 33)) K33_0 [(4, .int .u64 c2), (10, .lst len (dgs .u32 l)), (11, .int .i64 len), (12, .int .i64 (i + 1 : Nat))] σ := by
  have r1 := fun σ => lp_dg (σ := σ) (k := .u32) (l := l) (i := i) (by omega)
  rw [hx] at r1
  have c1 : wrapA .u64 (x : Int) = (x : Int) := wrap64_id (by omega) (by omega)
  have c2 : wrapA .i64 (32 * (i : Int)) = (j : Int) := by rw [wrapA_id (by omega) (by omega)]; omega
  have c3 : wrapA .u64 (y : Int) = (y : Int) := wrap64_id (by omega) (by omega)
  have hw : wrapA .i64 ((i : Int) + 1) = ((i + 1 : Nat) : Int) := by rw [wrapA_id (by omega) (by omega)]; omega
  have hil : (i : Int) < (len : Int) := by omega
  generalize i + 1 = i1 at *
  rw [fi33]
  conv => lhs; rw [xl33_0]
  simp only [B33_0, b33, Tryd.f33, Option.getD, fstC, sndC, bodyC, thnC, elsC]
  simp (maxSteps := 1000000) (disch := omega) [eK33_0_0, r1, convA, c1, c2, c3, hsh, ho, hw]
theorem en33 (l : List Nat) (len c z : Nat) (b : Bool) (hz : z ≤ 9223372036854775807) (ha : bitsA .and .u64 (c : Int) 9223372036854775807 = some (.int .u64 (z : Nat))) (hb : decide ((c : Int) ≤ 1000000000000000000) = b) (σ : St) :
    exI TT (FI.of Tryd.f33 (TT.an 33)) K33_0 [(4, .int .u64 c), (10, .lst len (dgs .u32 l)), (11, .int .i64 len), (12, .int .i64 len)] σ = some (.tup [.int .i64 z, .bool b], σ) := by
  have hw : wrapA .i64 (z : Int) = (z : Int) := wrapA_id (by omega) (by omega)
  rw [fi33, xl33_0]
  simp only [B33_0, b33, Tryd.f33, Option.getD, fstC, sndC, bodyC, thnC, elsC]
  simp (maxSteps := 1000000) (disch := omega) [eK33_0_0]
  simp only [R33_0_0, b33, Tryd.f33, Option.getD, fstC, sndC, bodyC, thnC, elsC]
  simp (maxSteps := 1000000) [xI_seq, xI_region, xI_ret, regA, regOps, runOps, opStep, wantedA, opA, evo, evos, calleeA, lk, nif_eq, putE, paramsE, valS, val2, keepE, restrict, finA, resA, binA, binInt, ofConst, ofConst1, loadA, TK.isAgg, asVar, unA, builtinA, lenOpA, lenA, ileb_cast, ileb_eq, ieqb_dec, indexAddrA, inB_dec, evPairs, storeA, AV.cellsOf, pairsOf, xI_nil, binBool, gcE, evOpt, tagZ, isI64, pureLd, loadP, boxP, ty2, ty3, ty41, ty73, ty74, ha, hw, hb, convA]
theorem be33 (l : List Nat) (len : Nat) (hl : len ≤ 2) : exI TT (FI.of Tryd.f33 (TT.an 33)) [.code (Tryd.f33.body.getD .skip)] (paramsE 0 [.lst len (dgs .u32 l)]) ⟨[], 0⟩ = exI TT (FI.of Tryd.f33 (TT.an 33)) K33_0 [(4, .int .u64 0), (10, .lst len (dgs .u32 l)), (11, .int .i64 len), (12, .int .i64 0)] ⟨[], 0⟩ := by
  have hl2 : (len : Int) ≤ 2 := by omega
  rw [fi33]
  show exI TT _ [.code b33] _ _ = _
  simp only [b33, Tryd.f33, Option.getD]
  simp (maxSteps := 1000000) (disch := omega) [eK33_0_0]
  rfl
theorem s33 (l : List Nat) (hd : Dg 4294967296 l) (hl : l.length ≤ 2) : FnV TT 33 [.lst l.length (dgs .u32 l)] (.tup [.int .i64 (val 4294967296 l % 9223372036854775808 : Nat), .bool (decide (val 4294967296 l ≤ 1000000000000000000))]) := by
  have hdec : ∀ t : Nat, decide ((t : Int) ≤ 1000000000000000000) = decide (t ≤ 1000000000000000000) := fun t => by
    by_cases h : t ≤ 1000000000000000000
    · rw [decide_eq_true h, decide_eq_true (by omega)]
    · rw [decide_eq_false h, decide_eq_false (by omega)]
  have hm : ∀ t : Nat, t % 9223372036854775808 ≤ 9223372036854775807 := fun t => by omega
  refine FnV.mk (c := Tryd.f33.body.getD .skip) fn33 rfl md33 ⟨⟨[], 0⟩, ?_⟩ (fun _ => rfl) rfl
  rw [be33 l l.length hl]
  match l, hl, hd with
  | [], _, _ => exact en33 [] 0 0 0 true (by decide) rfl (by decide) _
  | [a], hl, hd =>
    have ha : a < 4294967296 := hd a (by simp)
    have ho : bitsA .or .u64 ((0 : Nat) : Int) (a : Int) = some (.int .u64 a) := by
      have := w_or .u64 (a := 0) (b := a) (by decide) (by simp only [topOf]; omega)
      rw [Nat.zero_or] at this; exact this
    have hs : shlA (a : Int) (min 0 IntKind.u64.bits) = (a : Int) := by show ((a * 1 : Nat) : Int) = _; rw [Nat.mul_one]
    have hv : val 4294967296 [a] = a := by simp [val]
    have s1 := st33 [a] 1 0 a 0 0 a a rfl (by decide) (by decide) rfl ha rfl hs (by omega) ho ⟨[], 0⟩
    have s2 := en33 [a] 1 a _ _ (hm a) (and_top (by omega)) (hdec a) ⟨[], 0⟩
    rw [hv]
    exact s1.trans s2
  | [a, b], hl, hd =>
    have ha : a < 4294967296 := hd a (by simp)
    have hb : b < 4294967296 := hd b (by simp)
    have ho : bitsA .or .u64 ((0 : Nat) : Int) (a : Int) = some (.int .u64 a) := by
      have := w_or .u64 (a := 0) (b := a) (by decide) (by simp only [topOf]; omega)
      rw [Nat.zero_or] at this; exact this
    have hs : shlA (a : Int) (min 0 IntKind.u64.bits) = (a : Int) := by show ((a * 1 : Nat) : Int) = _; rw [Nat.mul_one]
    have hs2 := shlU32 b
    have ho2 := or_up ha hb
    have hbb : b * 4294967296 ≤ 4294967295 * 4294967296 := Nat.mul_le_mul_right _ (by omega)
    have hv : val 4294967296 [a, b] = a + b * 4294967296 := by simp [val, Nat.mul_comm]
    rw [hv]
    have e : 4294967295 * 4294967296 = 18446744069414584320 := rfl
    rw [e] at hbb
    clear e
    generalize b * 4294967296 = bb at *
    have s1 := st33 [a, b] 2 0 a 0 0 a a rfl (by decide) (by decide) rfl ha rfl hs (by omega) ho ⟨[], 0⟩
    have s3 := st33 [a, b] 2 1 b a 32 bb (a + bb) rfl (by decide) (by decide) rfl hb rfl hs2 (by omega) ho2 ⟨[], 0⟩
    have s2 := en33 [a, b] 2 (a + bb) _ _ (hm (a + bb)) (and_top (by omega)) (hdec (a + bb)) ⟨[], 0⟩
    exact s1.trans (s3.trans s2)
/-- The number, if it is small, and whether it is. -/
theorem v33 (n : Nat) (hn : (dg 4294967296 n).length < 1000000000000) : ∃ z : Int, FnV TT 33 [NA n] (.tup [.int .i64 z, .bool (decide (n ≤ 1000000000000000000))]) ∧ (n ≤ 1000000000000000000 → z = n) := by
  by_cases h : (dg 4294967296 n).length ≤ 2
  · have h1 := s33 (dg 4294967296 n) (dg_Dg (by decide) n) h
    rw [val_dg (by decide)] at h1
    exact ⟨_, h1, fun h => by omega⟩
  · have hbig : ¬ n ≤ 1000000000000000000 := fun hle => h (dg_len_le (by decide) (by omega))
    refine ⟨0, FnV.mk fn33 rfl md33 ⟨⟨[], 0⟩, ?_⟩ (fun _ => rfl) rfl, fun h => absurd h hbig⟩
    simp only [NA, hbig, decide_false]
    generalize (dg 4294967296 n).length = l1 at *
    have h2 : (2 : Int) < (l1 : Int) := by omega
    rw [fi33]
    simp (maxSteps := 1000000) (disch := omega) [eK33_0_0, h2]

theorem putCells_dgs (k : IntKind) (l w : List Nat) (o : Nat) : putCells (dgs k l) o (dgs k w) = dgs k (l.take o ++ w ++ l.drop (o + w.length)) := by
  simp [putCells, dgs, List.map_take, List.map_drop]
theorem w64 {n : Nat} (h : n ≤ 18446744073709551615) : wrapA .u64 (n : Int) = n := wrap64_id (by omega) (by omega)
theorem wi64 {n : Nat} (h : n ≤ 9223372036854775807) : wrapA .i64 (n : Int) = n := wrapA_id (by omega) (by omega)
/-- A store of some digits. -/
theorem rowStN {σ : St} {b o : Nat} {k : IntKind} {l : List Nat} (h : RowD σ b k l) (w : List Nat) (hi : o + w.length ≤ l.length) : ∃ σ', storeCellsA σ b o (dgs k w) = some σ' ∧ RowD σ' b k (l.take o ++ w ++ l.drop (o + w.length)) ∧ But b σ σ' := by
  obtain ⟨q, hg, hlt⟩ := h
  refine ⟨σ.set b ⟨dgs k (l.take o ++ w ++ l.drop (o + w.length)), 1, q⟩, ?_, ⟨q, get_set_eq hg, hlt⟩, rfl, fun c hc => get_set_ne (fun e => hc e.symm)⟩
  rw [storeCellsA_eq, hg]
  simp only [putCells_dgs]
  rw [if_pos ⟨by rw [dgs_length, dgs_length]; exact hi, allOne_dgs k w⟩]
theorem clear_dgs {σ : St} {b o n c : Nat} {l : List Nat} (h : RowD σ b .u32 l) (hi : o + n ≤ l.length) (hn : 0 < n) : ∃ σ', clearA TT σ 41 (.sl b o n c) = some (.und, σ') ∧ RowD σ' b .u32 (l.take o ++ List.replicate n 0 ++ l.drop (o + n)) ∧ But b σ σ' := by
  obtain ⟨σ', h1, h2, h3⟩ := rowStN h (List.replicate n 0) (o := o) (by simpa using hi)
  rw [List.length_replicate] at h2
  refine ⟨σ', ?_, h2, h3⟩
  simp only [clearA, ty41, ty74]
  rw [if_neg (by omega), repeat_dgs, h1]
theorem copy_dgs {σ : St} {b o n c : Nat} {l w : List Nat} (h : RowD σ b .u32 l) (hi : o + w.length ≤ l.length) (hn : w.length ≤ n) : ∃ σ', copyA TT σ 41 (.sl b o n c) (.lst w.length (dgs .u32 w)) = some (.int .i64 w.length, σ') ∧ RowD σ' b .u32 (l.take o ++ w ++ l.drop (o + w.length)) ∧ But b σ σ' := by
  obtain ⟨σ', h1, h2, h3⟩ := rowStN h w (o := o) hi
  refine ⟨σ', ?_, h2, h3⟩
  have hm : Nat.min w.length n = w.length := Nat.min_eq_left hn
  have hf : firstA σ 1 w.length (.lst w.length (dgs .u32 w)) = some (dgs .u32 w) := by
    show getCells (dgs .u32 w) 0 (w.length * 1) = _
    rw [getCells_dgs (by omega), List.drop_zero, List.take_of_length_le (by omega)]
  simp only [copyA, ty41, ty74, lenA, hm, hf, h1]
theorem win_replace {l w : List Nat} {o n : Nat} (hl : o + n ≤ l.length) (hw : w.length ≤ n) : ((l.take o ++ List.replicate n 0 ++ l.drop (o + n)).take o ++ w ++ (l.take o ++ List.replicate n 0 ++ l.drop (o + n)).drop (o + w.length)) = l.take o ++ (pad n w ++ l.drop (o + n)) := by
  have h1 : (l.take o).length = o := by rw [List.length_take]; omega
  have e1 : (l.take o ++ List.replicate n 0 ++ l.drop (o + n)).take o = l.take o := by
    rw [List.append_assoc, List.take_append, h1, Nat.sub_self, List.take_zero, List.append_nil, List.take_of_length_le (by omega)]
  have e2 : (l.take o ++ List.replicate n 0 ++ l.drop (o + n)).drop (o + w.length) = List.replicate (n - w.length) 0 ++ l.drop (o + n) := by
    rw [List.append_assoc, List.drop_append, h1, List.drop_of_length_le (by omega), List.nil_append, show o + w.length - o = w.length by omega, List.drop_append, List.length_replicate, show w.length - n = 0 by omega, List.drop_zero, List.drop_replicate]
  rw [e1, e2, pad]; simp
/-- One digit of a quotient: what becomes of the number and of what is found. -/
theorem div_step {B by_ k n : Nat} (hB : 2 ≤ B) {L : List Nat} (hd : Dg B L) (hL : k + n + 1 ≤ L.length) (hby : by_ < B ^ n) (hby0 : 0 < by_) (hX : val B L < by_ * B ^ (k + 1)) :
    let W := val B ((L.drop k).take (n + 1))
    W / by_ < B ∧ W < by_ * B ∧ val B (L.take k ++ (pad (n + 1) (dg B (W % by_)) ++ L.drop (k + (n + 1)))) < by_ * B ^ k ∧ val B L = val B (L.take k ++ (pad (n + 1) (dg B (W % by_)) ++ L.drop (k + (n + 1)))) + by_ * (W / by_) * B ^ k ∧ Dg B (L.take k ++ (pad (n + 1) (dg B (W % by_)) ++ L.drop (k + (n + 1)))) ∧ (dg B (W % by_)).length ≤ n := by
  intro W
  have hw := val_win B L k (n + 1)
  have hpk : 0 < B ^ k := Nat.pow_pos (by omega)
  have hpn : 0 < B ^ (n + 1) := Nat.pow_pos (by omega)
  have hhigh : val B (L.drop (k + (n + 1))) = 0 := by
    rcases Nat.eq_zero_or_pos (val B (L.drop (k + (n + 1)))) with h | h
    · exact h
    · exfalso
      have h1 : B ^ k * (B ^ (n + 1) * 1) ≤ B ^ k * (val B ((L.drop k).take (n + 1)) + B ^ (n + 1) * val B (L.drop (k + (n + 1)))) := Nat.mul_le_mul_left _ (Nat.le_trans (Nat.mul_le_mul_left _ h) (Nat.le_add_left _ _))
      have h2 : by_ * B ^ (k + 1) ≤ B ^ n * B ^ (k + 1) := Nat.mul_le_mul_right _ (Nat.le_of_lt hby)
      have h3 : B ^ n * B ^ (k + 1) = B ^ k * (B ^ (n + 1) * 1) := by rw [Nat.mul_one, ← Nat.pow_add, ← Nat.pow_add]; congr 1; omega
      omega
  rw [hhigh, Nat.mul_zero, Nat.add_zero] at hw
  have hlow : val B (L.take k) < B ^ k := by
    have := val_lt (by omega) (Dg_take hd k)
    rwa [List.length_take, Nat.min_eq_left (by omega)] at this
  have hWlt : W < by_ * B := by
    have h1 : B ^ k * W < B ^ k * (by_ * B) := by
      have e : by_ * B ^ (k + 1) = B ^ k * (by_ * B) := by rw [Nat.pow_succ, ← Nat.mul_assoc, Nat.mul_comm by_, Nat.mul_assoc]
      have hW : W = val B ((L.drop k).take (n + 1)) := rfl
      rw [← hW] at hw
      omega
    exact Nat.lt_of_mul_lt_mul_left h1
  have hq : W / by_ < B := by rw [Nat.div_lt_iff_lt_mul hby0, Nat.mul_comm]; exact hWlt
  have hr : W % by_ < by_ := Nat.mod_lt _ hby0
  have hlen : (dg B (W % by_)).length ≤ n := dg_len_le hB (Nat.lt_trans hr hby)
  have hval : val B (L.take k ++ (pad (n + 1) (dg B (W % by_)) ++ L.drop (k + (n + 1)))) = val B (L.take k) + B ^ k * (W % by_) := by
    rw [val_app, val_app, val_pad, val_dg hB, hhigh, Nat.mul_zero, Nat.add_zero, List.length_take, Nat.min_eq_left (by omega)]
  refine ⟨hq, hWlt, ?_, ?_, Dg_app (Dg_take hd k) (Dg_app (Dg_pad (by omega) (dg_Dg hB _)) (Dg_drop hd _)), hlen⟩
  · rw [hval]
    have : B ^ k * (W % by_ + 1) ≤ B ^ k * by_ := Nat.mul_le_mul_left _ hr
    rw [Nat.mul_add, Nat.mul_one, Nat.mul_comm (B ^ k) by_] at this
    omega
  · rw [hval, hw]
    have hm := Nat.mod_add_div W by_
    have e : B ^ k * W = B ^ k * (W % by_) + by_ * (W / by_) * B ^ k := by
      conv => lhs; rw [← hm]
      rw [Nat.mul_add, Nat.mul_comm (B ^ k) (by_ * (W / by_))]
    have hW : W = val B ((L.drop k).take (n + 1)) := rfl
    rw [← hW, e]; omega
theorem val_take_two (B : Nat) {l : List Nat} {n : Nat} (h : l.length = n + 1 + 1) : val B l = val B (l.take n) + B ^ n * (at1 l n + B * at1 l (n + 1)) := by
  have h1 : l = l.take (n + 1 + 1) := (List.take_of_length_le (by omega)).symm
  conv => lhs; rw [h1]
  rw [val_take_succ, val_take_succ, Nat.mul_add, Nat.pow_succ, Nat.mul_assoc]; omega
theorem at1_win (l : List Nat) (k n i : Nat) (hi : i < n) : at1 ((l.drop k).take n) i = at1 l (k + i) := by
  simp only [at1, List.getD_eq_getElem?_getD, List.getElem?_take, hi, if_true, List.getElem?_drop]
/-- The estimate of a digit. -/
theorem est_dig {B by_ k n : Nat} (hB : 2 ≤ B) {L bd : List Nat} (hd : Dg B L) (hL : k + (n + 1) + 1 ≤ L.length) (hbd : val B bd = by_) (hbl : bd.length = n + 1) (hv : 0 < at1 bd n) (hW : val B ((L.drop k).take (n + 1 + 1)) / by_ < B) :
    val B ((L.drop k).take (n + 1 + 1)) / by_ ≤ min ((at1 L (k + (n + 1)) * B + at1 L (k + n)) / at1 bd n) (B - 1) := by
  refine est_ge (n := n) (by omega) hv ?_ ?_ hW
  · have h1 : bd = bd.take (n + 1) := (List.take_of_length_le (by omega)).symm
    rw [← hbd, h1, val_take_succ, ← h1, Nat.mul_comm]; omega
  · have hl : ((L.drop k).take (n + 1 + 1)).length = n + 1 + 1 := by simp; omega
    rw [val_take_two B hl, at1_win _ _ _ _ (by omega), at1_win _ _ _ _ (by omega)]
    have h2 : val B (((L.drop k).take (n + 1 + 1)).take n) < B ^ n := by
      have := val_lt (by omega) (Dg_take (Dg_take (Dg_drop hd k) (n + 1 + 1)) n)
      rwa [List.length_take, hl, Nat.min_eq_left (by omega)] at this
    have e : (at1 L (k + (n + 1)) * B + at1 L (k + n) + 1) * B ^ n = B ^ n * (at1 L (k + n) + B * at1 L (k + (n + 1))) + B ^ n := by
      rw [Nat.add_mul, Nat.one_mul, Nat.mul_comm (at1 L (k + (n + 1))) B, Nat.add_comm (B * _), Nat.mul_comm (_ + _) (B ^ n)]
    rw [e]; omega

noncomputable def b53 : Code := Tryd.f53.body.getD .skip
noncomputable def B53_0 : Code := (bodyC (bodyC (sndC (fstC (sndC (sndC (sndC (sndC (sndC (sndC b53))))))))))
noncomputable def K53_0 : List It := .lp B53_0 :: .blk 0 :: .code (sndC (sndC (sndC (sndC (sndC (sndC (sndC b53))))))) :: []
theorem xl53_0 {fi : FI} {env : Env} {σ : St} : exI TT fi K53_0 env σ = exI TT fi (.code B53_0 :: K53_0) env σ := by unfold K53_0; exact xI_lp
noncomputable def R53_0_0 : List It := .code (sndC (sndC (sndC (sndC (sndC (sndC (sndC b53))))))) :: []
theorem eK53_0_0 : exitA 0 K53_0 = some R53_0_0 := rfl
noncomputable def B53_1 : Code := (bodyC (bodyC (fstC (sndC (sndC (bodyC (fstC (sndC (bodyC (bodyC (sndC (fstC (sndC (sndC (sndC (sndC (sndC (sndC b53))))))))))))))))))
noncomputable def K53_1 : List It := .lp B53_1 :: .blk 2 :: .code (sndC (sndC (sndC (bodyC (fstC (sndC (bodyC (bodyC (sndC (fstC (sndC (sndC (sndC (sndC (sndC (sndC b53)))))))))))))))) :: .blk 1 :: .code (sndC (sndC (bodyC (bodyC (sndC (fstC (sndC (sndC (sndC (sndC (sndC (sndC b53)))))))))))) :: K53_0
theorem xl53_1 {fi : FI} {env : Env} {σ : St} : exI TT fi K53_1 env σ = exI TT fi (.code B53_1 :: K53_1) env σ := by unfold K53_1; exact xI_lp
noncomputable def R53_1_2 : List It := .code (sndC (sndC (sndC (bodyC (fstC (sndC (bodyC (bodyC (sndC (fstC (sndC (sndC (sndC (sndC (sndC (sndC b53)))))))))))))))) :: .blk 1 :: .code (sndC (sndC (bodyC (bodyC (sndC (fstC (sndC (sndC (sndC (sndC (sndC (sndC b53)))))))))))) :: K53_0
theorem eK53_1_2 : exitA 2 K53_1 = some R53_1_2 := rfl
noncomputable def R53_1_1 : List It := .code (sndC (sndC (bodyC (bodyC (sndC (fstC (sndC (sndC (sndC (sndC (sndC (sndC b53)))))))))))) :: K53_0
theorem eK53_1_1 : exitA 1 K53_1 = some R53_1_1 := rfl
theorem eK53_1_0 : exitA 0 K53_1 = some R53_0_0 := rfl
theorem sl_dgs {σ : St} {b n c l h k : Nat} (h1 : l ≤ h) (h2 : h ≤ c) (h3 : l < c) (hk : h = l + k) : sliceA TT σ 41 (.sl b 0 n c) (some (.int .i64 l)) (some (.int .i64 h)) = some (.sl b l k (c - l)) := by
  subst hk
  simp only [sliceA, ty41, ty74, boundA]
  have e1 : (0 : Int) ≤ ((l + k : Nat) : Int) ∧ ((l + k : Nat) : Int) ≤ (c : Int) := by omega
  have e2 : (0 : Int) ≤ (l : Int) ∧ (l : Int) ≤ ((l + k : Nat) : Int) := by omega
  simp only [Int.toNat_natCast, e1, e2, and_self, if_true, h3, or_true]
  simp
theorem sl_dgs0 {σ : St} {b n c l : Nat} (h1 : l ≤ n) (h2 : n ≤ c) (h3 : l < c) : sliceA TT σ 41 (.sl b 0 n c) (some (.int .i64 l)) none = some (.sl b l (n - l) (c - l)) := by
  simp only [sliceA, ty41, ty74, boundA]
  have e2 : (0 : Int) ≤ (l : Int) ∧ (l : Int) ≤ (n : Int) := by omega
  simp only [Int.toNat_natCast, e2, h2, and_self, if_true, h3, or_true]
  simp
theorem sd53 (s rb L n qb k0 : Nat) (bd : List Nat) (k d d1 kn kn1 : Nat) (z : Int) (vd vp vw vc vt : AV) (σ σ1 σ2 : St) (w1 : wrapA .i64 (d : Int) = (d : Int)) (c1 : callI TT 30 [.int .i64 d] σ = some (vd, σ)) (c2 : callI TT 34 [.lst n (dgs .u32 bd), vd] σ = some (vp, σ))
    (w2 : wrapA .i64 ((k : Int) + (n : Int)) = (kn : Int)) (w3 : wrapA .i64 ((kn : Int) + 1) = (kn1 : Int)) (hsl : ∀ σ, sliceA TT σ 41 (.sl rb 0 L L) (some (.int .i64 k)) (some (.int .i64 kn1)) = some vw)
    (c3 : callI TT 63 [vw] σ = some (vc, σ1)) (c4 : callI TT 51 [vc] σ1 = some (vt, σ2)) (c5 : callI TT 36 [vp, vt] σ2 = some (.int .i64 z, σ2)) (hz : 0 < z) (w4 : wrapA .u64 ((d : Int) - 1) = (d1 : Int)) :
    exI TT (FI.of Tryd.f53 (TT.an 53)) K53_1 [(6, .int .i64 s), (7, .sl rb 0 L L), (8, .lst n (dgs .u32 bd)), (9, .int .i64 n), (10, .sl qb 0 k0 k0), (11, .int .i64 k), (13, .int .u64 d)] σ = exI TT (FI.of Tryd.f53 (TT.an 53)) K53_1 [(6, .int .i64 s), (7, .sl rb 0 L L), (8, .lst n (dgs .u32 bd)), (9, .int .i64 n), (10, .sl qb 0 k0 k0), (11, .int .i64 k), (13, .int .u64 d1)] σ2 := by
  rw [fi53]
  conv => lhs; rw [xl53_1]
  simp only [B53_1, b53, Tryd.f53, Option.getD, fstC, sndC, bodyC, thnC, elsC]
  simp (maxSteps := 1000000) (disch := omega) [eK53_0_0, eK53_1_2, eK53_1_1, eK53_1_0, convA, w1, c1, c2, w2, w3, hsl, c3, c4, c5, w4]
theorem se53 (s rb L n qb k0 : Nat) (bd : List Nat) (k d kn kn1 : Nat) (z : Int) (vd vp vw vc vt vl vr vi : AV) (σ σ1 σ2 σ3 σ4 σ5 : St) (w1 : wrapA .i64 (d : Int) = (d : Int)) (c1 : callI TT 30 [.int .i64 d] σ = some (vd, σ)) (c2 : callI TT 34 [.lst n (dgs .u32 bd), vd] σ = some (vp, σ))
    (w2 : wrapA .i64 ((k : Int) + (n : Int)) = (kn : Int)) (w3 : wrapA .i64 ((kn : Int) + 1) = (kn1 : Int)) (hsl : ∀ σ, sliceA TT σ 41 (.sl rb 0 L L) (some (.int .i64 k)) (some (.int .i64 kn1)) = some vw)
    (c3 : callI TT 63 [vw] σ = some (vc, σ1)) (c4 : callI TT 51 [vc] σ1 = some (vt, σ2)) (c5 : callI TT 36 [vp, vt] σ2 = some (.int .i64 z, σ2)) (hz : z ≤ 0)
    (c6 : callI TT 37 [vw, vp] σ2 = some (vl, σ3)) (c7 : clearA TT σ3 41 vw = some (.und, σ4)) (hsl4 : sliceA TT σ4 41 (.sl rb 0 L L) (some (.int .i64 k)) none = some vr) (c8 : copyA TT σ4 41 vr vl = some (vi, σ5)) :
    exI TT (FI.of Tryd.f53 (TT.an 53)) K53_1 [(6, .int .i64 s), (7, .sl rb 0 L L), (8, .lst n (dgs .u32 bd)), (9, .int .i64 n), (10, .sl qb 0 k0 k0), (11, .int .i64 k), (13, .int .u64 d)] σ = exI TT (FI.of Tryd.f53 (TT.an 53)) R53_1_2 [(6, .int .i64 s), (7, .sl rb 0 L L), (8, .lst n (dgs .u32 bd)), (9, .int .i64 n), (10, .sl qb 0 k0 k0), (11, .int .i64 k), (13, .int .u64 d)] σ5 := by
  rw [fi53]
  rw [xl53_1]
  simp only [B53_1, b53, Tryd.f53, Option.getD, fstC, sndC, bodyC, thnC, elsC]
  simp (maxSteps := 1000000) (disch := omega) [eK53_0_0, eK53_1_2, eK53_1_1, eK53_1_0, convA, w1, c1, c2, w2, w3, hsl, c3, c4, c5, c6, c7, hsl4, c8]
theorem sq53 (s rb L n qb k0 : Nat) (bd : List Nat) (k d : Nat) (σ σ1 : St) (hk : k < k0) (w1 : wrapA .u32 (d : Int) = (d : Int)) (s1 : storeCellsA σ qb k [.int .u32 d] = some σ1) (w2 : wrapA .i64 ((k : Int) - 1) = (k : Int) - 1) :
    exI TT (FI.of Tryd.f53 (TT.an 53)) R53_1_2 [(6, .int .i64 s), (7, .sl rb 0 L L), (8, .lst n (dgs .u32 bd)), (9, .int .i64 n), (10, .sl qb 0 k0 k0), (11, .int .i64 k), (13, .int .u64 d)] σ = exI TT (FI.of Tryd.f53 (TT.an 53)) K53_0 [(6, .int .i64 s), (7, .sl rb 0 L L), (8, .lst n (dgs .u32 bd)), (9, .int .i64 n), (10, .sl qb 0 k0 k0), (11, .int .i64 ((k : Int) - 1))] σ1 := by
  rw [fi53]
  simp only [R53_1_2, b53, Tryd.f53, Option.getD, fstC, sndC, bodyC, thnC, elsC]
  simp (maxSteps := 1000000) (disch := omega) [eK53_0_0, eK53_1_2, eK53_1_1, eK53_1_0, convA, w1, s1, w2]
theorem so53 (s rb L n qb k0 : Nat) (bd : List Nat) (k kn kn' n' x1 x0 t0 top v q0 d : Nat) (σ : St) (w2 : wrapA .i64 ((k : Int) + (n : Int)) = (kn : Int)) (w3 : wrapA .i64 ((kn : Int) - 1) = (kn' : Int)) (h1 : kn < L) (h2 : kn' < L)
    (r1 : cellsAt σ (.ptr rb kn) 1 = some [.int .u32 (x1 : Int)]) (r0 : cellsAt σ (.ptr rb kn') 1 = some [.int .u32 (x0 : Int)]) (w4 : wrapA .u64 (x1 : Int) = (x1 : Int)) (w5 : wrapA .u64 (x0 : Int) = (x0 : Int)) (c1 : shlA (x1 : Int) (min 32 IntKind.u64.bits) = (t0 : Int)) (w6 : wrapA .u64 (t0 : Int) = (t0 : Int))
    (c2 : bitsA .or .u64 (t0 : Int) (x0 : Int) = some (.int .u64 (top : Int))) (w7 : wrapA .i64 ((n : Int) - 1) = (n' : Int)) (h3 : n' < n) (r2 : ∀ σ : St, cellsAt σ (.lp (dgs .u32 bd) n') 1 = some [.int .u32 (v : Int)]) (hv : 0 < v) (w8 : wrapA .u64 (v : Int) = (v : Int))
    (c3 : wrapA .u64 ((top : Int) / (v : Int)) = (q0 : Int)) (c4 : minmaxA false [.int .u64 (q0 : Int), .int .u64 4294967295] = some (.int .u64 (d : Int))) :
    exI TT (FI.of Tryd.f53 (TT.an 53)) K53_0 [(6, .int .i64 s), (7, .sl rb 0 L L), (8, .lst n (dgs .u32 bd)), (9, .int .i64 n), (10, .sl qb 0 k0 k0), (11, .int .i64 k)] σ = exI TT (FI.of Tryd.f53 (TT.an 53)) K53_1 [(6, .int .i64 s), (7, .sl rb 0 L L), (8, .lst n (dgs .u32 bd)), (9, .int .i64 n), (10, .sl qb 0 k0 k0), (11, .int .i64 k), (13, .int .u64 d)] σ := by
  have hv0 : ¬ (v : Int) = 0 := by omega
  have hk : (0 : Int) ≤ (k : Int) := by omega
  rw [fi53]
  rw [xl53_0]
  simp only [B53_0, b53, Tryd.f53, Option.getD, fstC, sndC, bodyC, thnC, elsC]
  simp (maxSteps := 1000000) (disch := omega) [eK53_0_0, eK53_1_2, eK53_1_1, eK53_1_0, convA, w2, w3, r1, r0, w4, w5, c1, w6, c2, w7, r2, w8, c3, c4]
  rfl
theorem sf53 (s rb L n qb k0 : Nat) (bd : List Nat) (c : Nat) (vr vl vq : AV) (σ σ1 σ2 : St) (c1 : callI TT 51 [.sl rb 0 L L] σ = some (vr, σ1)) (c2 : callI TT 64 [vr, .int .i64 s] σ1 = some (.tup [.int .u32 c, vl], σ1)) (c3 : callI TT 51 [.sl qb 0 k0 k0] σ1 = some (vq, σ2)) :
    exI TT (FI.of Tryd.f53 (TT.an 53)) K53_0 [(6, .int .i64 s), (7, .sl rb 0 L L), (8, .lst n (dgs .u32 bd)), (9, .int .i64 n), (10, .sl qb 0 k0 k0), (11, .int .i64 (-1))] σ = some (.tup [vq, vl], σ2) := by
  rw [fi53]
  rw [xl53_0]
  simp only [B53_0, b53, Tryd.f53, Option.getD, fstC, sndC, bodyC, thnC, elsC]
  simp (maxSteps := 1000000) (disch := omega) [eK53_0_0, eK53_1_2, eK53_1_1, eK53_1_0]
  simp only [R53_0_0, b53, Tryd.f53, Option.getD, fstC, sndC, bodyC, thnC, elsC]
  simp (maxSteps := 1000000) (disch := omega) [eK53_0_0, eK53_1_2, eK53_1_1, eK53_1_0, c1, c2, c3]
theorem sb53 (s rb L n qb k0 : Nat) (bd : List Nat) (la lb : Nat) (a b : List Nat) (n' v : Nat) (z : Int) (vu : AV) (σ σ1 σ2 σ3 σ4 : St) (c1 : callI TT 36 [.lst la (dgs .u32 a), .lst lb (dgs .u32 b)] σ = some (.int .i64 z, σ)) (hz : 0 ≤ z) (w1 : wrapA .i64 ((lb : Int) - 1) = (n' : Int)) (h1 : n' < lb) (r1 : ∀ σ : St, cellsAt σ (.lp (dgs .u32 b) n') 1 = some [.int .u32 (v : Int)])
    (c2 : callI TT 61 [.int .u32 v] σ = some (.int .i64 s, σ)) (c3 : callI TT 62 [.lst la (dgs .u32 a), .int .i64 s] σ = some (.sl rb 0 L L, σ1)) (c4 : callI TT 62 [.lst lb (dgs .u32 b), .int .i64 s] σ1 = some (vu, σ2)) (c5 : callI TT 51 [vu] σ2 = some (.lst n (dgs .u32 bd), σ3))
    (w2 : wrapA .i64 ((L : Int) - (n : Int)) = (k0 : Int)) (c6 : makeSliceA TT σ3 41 (.int .i64 k0) (.int .i64 k0) = some (.sl qb 0 k0 k0, σ4)) (w3 : wrapA .i64 ((k0 : Int) - 1) = (k0 : Int) - 1) :
    exI TT (FI.of Tryd.f53 (TT.an 53)) [.code (Tryd.f53.body.getD .skip)] (paramsE 0 [.lst la (dgs .u32 a), .lst lb (dgs .u32 b)]) σ = exI TT (FI.of Tryd.f53 (TT.an 53)) K53_0 [(6, .int .i64 s), (7, .sl rb 0 L L), (8, .lst n (dgs .u32 bd)), (9, .int .i64 n), (10, .sl qb 0 k0 k0), (11, .int .i64 ((k0 : Int) - 1))] σ4 := by
  rw [fi53]
  show exI TT _ [.code b53] _ _ = _
  simp only [b53, Tryd.f53, Option.getD]
  simp (maxSteps := 1000000) (disch := omega) [eK53_0_0, eK53_1_2, eK53_1_1, eK53_1_0, c1, w1, r1, c2, c3, c4, c5, w2, c6, w3]
  rfl
theorem sz53 (la lb : Nat) (a b : List Nat) (z : Int) (σ : St) (c1 : callI TT 36 [.lst la (dgs .u32 a), .lst lb (dgs .u32 b)] σ = some (.int .i64 z, σ)) (hz : z < 0) :
    exI TT (FI.of Tryd.f53 (TT.an 53)) [.code (Tryd.f53.body.getD .skip)] (paramsE 0 [.lst la (dgs .u32 a), .lst lb (dgs .u32 b)]) σ = some (.tup [.nilS, .lst la (dgs .u32 a)], σ) := by
  rw [fi53]
  show exI TT _ [.code b53] _ _ = _
  simp only [b53, Tryd.f53, Option.getD]
  simp (maxSteps := 1000000) (disch := omega) [eK53_0_0, eK53_1_2, eK53_1_1, eK53_1_0, c1]

set_option maxHeartbeats 1000000 in
theorem in53 (s rb L n qb k0 : Nat) (bd : List Nat) (by_ : Nat) (hbd : bd = dg 4294967296 by_) (hn : n = bd.length) (hby0 : 0 < by_) (k : Nat) (hrq : rb ≠ qb) (l0 qs : List Nat) (hl : l0.length = L) (hd : Dg 4294967296 l0) (hk : k + n + 1 ≤ L) (hL : L < 1000000000) (hX : val 4294967296 l0 < by_ * 4294967296 ^ (k + 1)) : ∀ (e d : Nat) (σ : St), d = val 4294967296 ((l0.drop k).take (n + 1)) / by_ + e → d < 4294967296 → RowD σ rb .u32 l0 → RowD σ qb .u32 qs →
    ∃ σ', exI TT (FI.of Tryd.f53 (TT.an 53)) K53_1 [(6, .int .i64 s), (7, .sl rb 0 L L), (8, .lst n (dgs .u32 bd)), (9, .int .i64 n), (10, .sl qb 0 k0 k0), (11, .int .i64 k), (13, .int .u64 d)] σ = exI TT (FI.of Tryd.f53 (TT.an 53)) R53_1_2 [(6, .int .i64 s), (7, .sl rb 0 L L), (8, .lst n (dgs .u32 bd)), (9, .int .i64 n), (10, .sl qb 0 k0 k0), (11, .int .i64 k), (13, .int .u64 (val 4294967296 ((l0.drop k).take (n + 1)) / by_ : Nat))] σ' ∧ RowD σ' rb .u32 (l0.take k ++ (pad (n + 1) (dg 4294967296 (val 4294967296 ((l0.drop k).take (n + 1)) % by_)) ++ l0.drop (k + (n + 1)))) ∧ RowD σ' qb .u32 qs := by
  have hbl : by_ < 4294967296 ^ n := by rw [hn, hbd]; exact lt_dg_len (by decide) by_
  obtain ⟨hq, hWlt, hX', hval, hd', hlen⟩ := div_step (B := 4294967296) (by decide) hd (by omega) hbl hby0 hX
  have hwl : ((l0.drop k).take (n + 1)).length = n + 1 := by simp; omega
  have hwd : Dg 4294967296 ((l0.drop k).take (n + 1)) := Dg_take (Dg_drop hd k) _
  have hWB := val_lt (by decide) hwd
  rw [hwl] at hWB
  obtain ⟨w, hw⟩ : ∃ w, (l0.drop k).take (n + 1) = w := ⟨_, rfl⟩
  rw [hw] at hq hWlt hX' hval hd' hlen hwl hwd hWB ⊢
  obtain ⟨W, hW⟩ : ∃ W, val 4294967296 w = W := ⟨_, rfl⟩
  rw [hW] at hq hWlt hX' hval hd' hlen hWB ⊢
  have w2 : wrapA .i64 ((k : Int) + (n : Int)) = ((k + n : Nat) : Int) := by rw [wrapA_id (by omega) (by omega)]; omega
  have w3 : wrapA .i64 (((k + n : Nat) : Int) + 1) = ((k + n + 1 : Nat) : Int) := by rw [wrapA_id (by omega) (by omega)]; omega
  have hsl : ∀ σ, sliceA TT σ 41 (.sl rb 0 L L) (some (.int .i64 k)) (some (.int .i64 (k + n + 1 : Nat))) = some (.sl rb k (n + 1) (L - k)) := fun σ => sl_dgs (by omega) (by omega) (by omega) (by omega)
  intro e
  induction e with
  | zero =>
    intro d σ he hdB hr hqr
    obtain rfl : d = W / by_ := he
    have hdl : (dg 4294967296 (W / by_)).length ≤ 1 := dg_len_le (by decide) (by simpa using hdB)
    have w1 : wrapA .i64 ((W / by_ : Nat) : Int) = ((W / by_ : Nat) : Int) := by generalize W / by_ = d at *; exact wrapA_id (by omega) (by omega)
    have c1 := (v30 (W / by_) (by omega)).pure σ rfl rfl
    have c2 := (v34 by_ (W / by_) (by rw [← hbd, ← hn]; omega) (by omega)).pure σ rfl rfl
    obtain ⟨o, c3⟩ := n63 hr (off := k) (n := n + 1) (cap := L - k) (by omega) (by omega) (by omega) (by omega) hw
    have hr1 : RowD (σ.push ⟨dgs .u32 w, 1, o⟩) σ.n .u32 w := RowA.push
    obtain ⟨σ2, c4, u2⟩ := t51 (len := n + 1) (cap := n + 1) (by omega) (by omega) (Nat.le_refl _) hr1 hwd
    rw [hW] at c4
    have hqW : by_ * (W / by_) ≤ W := Nat.mul_div_le W by_
    have hbq : (dg 4294967296 (by_ * (W / by_))).length ≤ n + 1 := dg_len_le (by decide) (Nat.lt_of_le_of_lt hqW hWB)
    obtain ⟨z, hz, hz1, hz2⟩ := v36 (by_ * (W / by_)) W (by omega) (by have := dg_len_le (B := 4294967296) (by decide) hWB; omega)
    have c5 := hz σ2 [NA (by_ * (W / by_)), NA W] rfl
    have hrl := hr.lt
    have hql := hqr.lt
    have hr2 : RowD σ2 rb .u32 l0 := (RowA.pushed hr).but (by omega) u2
    have hq2 : RowD σ2 qb .u32 qs := (RowA.pushed hqr).but (by omega) u2
    obtain ⟨σ3, c6, o3⟩ := m37s w (dg 4294967296 (by_ * (W / by_))) (n + 1) (by omega) hwd (dg_Dg (by decide) _) (by omega) (by rw [val_dg (by decide), hW]; exact hqW) (by omega) σ2 rb k (L - k) l0 (by omega) hw hr2
    rw [val_dg (by decide), hW] at c6
    have hmod : W - by_ * (W / by_) = W % by_ := by have := Nat.mod_add_div W by_; omega
    rw [hmod] at c6
    replace hr2 := hr2.old o3
    replace hq2 := hq2.old o3
    obtain ⟨σ4, c7, hr4, u4⟩ := clear_dgs (c := L - k) hr2 (o := k) (n := n + 1) (by omega) (by omega)
    have hsl4 : sliceA TT σ4 41 (.sl rb 0 L L) (some (.int .i64 k)) none = some (.sl rb k (L - k) (L - k)) := sl_dgs0 (by omega) (by omega) (by omega)
    obtain ⟨σ5, c8, hr5, u5⟩ := copy_dgs (w := dg 4294967296 (W % by_)) (c := L - k) hr4 (o := k) (n := L - k) (by simp; omega) (by omega)
    rw [win_replace (by omega) (by omega)] at hr5
    refine ⟨σ5, ?_, hr5, (hq2.but (Ne.symm hrq) u4).but (Ne.symm hrq) u5⟩
    have := se53 s rb L n qb k0 bd k (W / by_) (k + n) (k + n + 1) z (NA (W / by_)) (NA (by_ * (W / by_))) (.sl rb k (n + 1) (L - k)) _ (NA W) (NA (W % by_)) _ _ σ _ σ2 σ3 σ4 σ5 w1 c1 (by rw [hn, hbd]; exact c2) w2 w3 hsl c3 c4 c5 (by omega) c6 c7 hsl4 c8
    exact this
  | succ e ih =>
    intro d σ he hdB hr hqr
    have hdl : (dg 4294967296 d).length ≤ 1 := dg_len_le (by decide) (by simpa using hdB)
    have w1 : wrapA .i64 (d : Int) = (d : Int) := wrapA_id (by omega) (by omega)
    have c1 := (v30 d (by omega)).pure σ rfl rfl
    have c2 := (v34 by_ d (by rw [← hbd, ← hn]; omega) (by omega)).pure σ rfl rfl
    obtain ⟨o, c3⟩ := n63 hr (off := k) (n := n + 1) (cap := L - k) (by omega) (by omega) (by omega) (by omega) hw
    have hr1 : RowD (σ.push ⟨dgs .u32 w, 1, o⟩) σ.n .u32 w := RowA.push
    obtain ⟨σ2, c4, u2⟩ := t51 (len := n + 1) (cap := n + 1) (by omega) (by omega) (Nat.le_refl _) hr1 hwd
    rw [hW] at c4
    have hbd1 : by_ * d < 4294967296 ^ (n + 1) := by
      have h1 : by_ * d < 4294967296 ^ n * 4294967296 := Nat.mul_lt_mul'' hbl hdB
      rwa [← Nat.pow_succ] at h1
    have hbq : (dg 4294967296 (by_ * d)).length ≤ n + 1 := dg_len_le (by decide) hbd1
    obtain ⟨z, hz, hz1, hz2⟩ := v36 (by_ * d) W (by omega) (by have := dg_len_le (B := 4294967296) (by decide) hWB; omega)
    have c5 := hz σ2 [NA (by_ * d), NA W] rfl
    have hrl := hr.lt
    have hql := hqr.lt
    have hr2 : RowD σ2 rb .u32 l0 := (RowA.pushed hr).but (by omega) u2
    have hq2 : RowD σ2 qb .u32 qs := (RowA.pushed hqr).but (by omega) u2
    have hgt : W < by_ * d := by
      have h1 : W / by_ < d := by omega
      rw [Nat.div_lt_iff_lt_mul hby0, Nat.mul_comm] at h1
      exact h1
    obtain ⟨d1, hd1, rfl⟩ : ∃ d1, d1 = W / by_ + e ∧ d = d1 + 1 := ⟨_, rfl, he⟩
    have w4 : wrapA .u64 (((d1 + 1 : Nat) : Int) - 1) = (d1 : Int) := by rw [wrap64_id (by omega) (by omega)]; omega
    obtain ⟨σ', k1, k2, k3⟩ := ih d1 σ2 hd1 (by omega) hr2 hq2
    refine ⟨σ', ?_, k2, k3⟩
    rw [← k1]
    exact sd53 s rb L n qb k0 bd k (d1 + 1) d1 (k + n) (k + n + 1) z (NA (d1 + 1)) (NA (by_ * (d1 + 1))) (.sl rb k (n + 1) (L - k)) _ (NA W) σ _ σ2 w1 c1 (by rw [hn, hbd]; exact c2) w2 w3 hsl c3 c4 c5 (hz2.2 hgt) w4
set_option maxHeartbeats 1000000 in
theorem ou53 (s rb L n qb k0 : Nat) (bd : List Nat) (by_ A : Nat) (hs : s < 32) (hbd : bd = dg 4294967296 by_) (hn : n = bd.length) (hby0 : 0 < by_) (hrq : rb ≠ qb) (hL : L < 1000000000) (hk0 : k0 + n = L) : ∀ (m : Nat) (l0 qs : List Nat) (σ : St), m ≤ k0 → l0.length = L → Dg 4294967296 l0 → qs.length = k0 → Dg 4294967296 qs → val 4294967296 l0 < by_ * 4294967296 ^ m → A = val 4294967296 l0 + by_ * (4294967296 ^ m * val 4294967296 (qs.drop m)) → RowD σ rb .u32 l0 → RowD σ qb .u32 qs → (∀ i, i < m → at1 qs i = 0) →
    ∃ σ', exI TT (FI.of Tryd.f53 (TT.an 53)) K53_0 [(6, .int .i64 s), (7, .sl rb 0 L L), (8, .lst n (dgs .u32 bd)), (9, .int .i64 n), (10, .sl qb 0 k0 k0), (11, .int .i64 ((m : Int) - 1))] σ = some (.tup [NA (A / by_), NA (A % by_ / 2 ^ s)], σ') := by
  have hn0 : 0 < n := by rw [hn, hbd]; exact (dg_len_pos (by decide)).2 hby0
  intro m
  induction m with
  | zero =>
    intro l0 qs σ hm hl hd hql hqd hX hA hr hqr hz
    rw [Nat.pow_zero, Nat.mul_one] at hX
    rw [Nat.pow_zero, Nat.one_mul, List.drop_zero] at hA
    have h1 : A / by_ = val 4294967296 qs := by rw [hA, Nat.add_mul_div_left _ _ hby0, Nat.div_eq_of_lt hX, Nat.zero_add]
    have h2 : A % by_ = val 4294967296 l0 := by rw [hA, Nat.add_mul_mod_self_left, Nat.mod_eq_of_lt hX]
    obtain ⟨σ1, c1, u1⟩ := t51 (len := L) (cap := L) hl.symm (by omega) (Nat.le_refl _) hr hd
    obtain ⟨c, hc⟩ := v64 (val 4294967296 l0) s hs (by
      have h3 := val_lt (by decide) hd
      have := dg_len_le (B := 4294967296) (by decide) h3
      omega)
    have c2 := hc.pure σ1 rfl rfl
    obtain ⟨σ2, c3, u2⟩ := t51 (len := k0) (cap := k0) hql.symm (by omega) (Nat.le_refl _) (hqr.but (Ne.symm hrq) u1) hqd
    refine ⟨σ2, ?_⟩
    rw [h1, h2]
    exact sf53 s rb L n qb k0 bd c _ _ _ σ σ1 σ2 c1 c2 c3
  | succ k ih =>
    intro l0 qs σ hm hl hd hql hqd hX hA hr hqr hz
    have hbl : by_ < 4294967296 ^ n := by rw [hn, hbd]; exact lt_dg_len (by decide) by_
    obtain ⟨n', rfl⟩ : ∃ n', n = n' + 1 := ⟨n - 1, by omega⟩
    have hkl : k + (n' + 1) + 1 ≤ l0.length := by omega
    obtain ⟨hq, hWlt, hX', hval, hd', hlen⟩ := div_step (B := 4294967296) (by decide) hd hkl hbl hby0 hX
    have hv0 : 0 < at1 bd n' := by
      have h1 : dg 4294967296 by_ = dg 4294967296 by_ := rfl
      have hc : can (dg 4294967296 by_) := by
        have h2 := trim_dg (B := 4294967296) (by decide) (dg_Dg (by decide) by_)
        rw [val_dg (by decide)] at h2
        rw [← h2]; exact trimL_can _
      have hlast : ∀ (l : List Nat) (n' : Nat), can l → l.length = n' + 1 → 0 < at1 l n' := fun l => by
        induction l with
        | nil => intro n' _ h; simp at h
        | cons x r ih =>
          intro n' hcan hlen
          rcases r with _ | ⟨y, r⟩
          · simp at hlen; subst hlen
            simp [can] at hcan
            simp [at1]; omega
          · obtain ⟨j, rfl⟩ : ∃ j, n' = j + 1 := ⟨n' - 1, by simp at hlen; omega⟩
            have := ih j (can_tail hcan) (by simpa using hlen)
            simpa [at1] using this
      rw [hbd]; exact hlast _ _ hc (by rw [← hbd, ← hn])
    have hbv : val 4294967296 bd = by_ := by rw [hbd, val_dg (by decide)]
    have hest := est_dig (B := 4294967296) (by decide) hd hkl hbv hn.symm hv0 hq
    have hx1 := at1_lt (B := 4294967296) (by decide) hd (k + (n' + 1))
    have hx0 := at1_lt (B := 4294967296) (by decide) hd (k + n')
    have hvB : at1 bd n' < 4294967296 := by rw [hbd]; exact at1_lt (by decide) (dg_Dg (by decide) by_) n'
    have r1 := hr.rd (i := k + (n' + 1)) (by omega)
    have r0 := hr.rd (i := k + n') (by omega)
    have r2 := fun σ : St => lp_dg (σ := σ) (k := .u32) (l := bd) (i := n') (by omega)
    obtain ⟨X1, hX1⟩ : ∃ x, at1 l0 (k + (n' + 1)) = x := ⟨_, rfl⟩
    obtain ⟨X0, hX0⟩ : ∃ x, at1 l0 (k + n') = x := ⟨_, rfl⟩
    obtain ⟨v, hv⟩ : ∃ x, at1 bd n' = x := ⟨_, rfl⟩
    rw [hX1] at hest hx1 r1
    rw [hX0] at hest hx0 r0
    rw [hv] at hest hv0 hvB r2
    have htop0 : X1 * 4294967296 + X0 ≤ 18446744073709551615 := by omega
    have c2 := or_dig hx1 hx0
    have c1 := shlU32 X1
    obtain ⟨t0, ht0⟩ : ∃ t0, X1 * 4294967296 = t0 := ⟨_, rfl⟩
    rw [ht0] at hest htop0 c2 c1
    obtain ⟨top, ht1⟩ : ∃ top, t0 + X0 = top := ⟨_, rfl⟩
    rw [ht1] at hest htop0 c2
    have htop2 : t0 ≤ 18446744073709551615 := by omega
    clear ht0
    obtain ⟨q, hqq⟩ : ∃ q, val 4294967296 ((l0.drop k).take (n' + 1 + 1)) / by_ = q := ⟨_, rfl⟩
    have hin := in53 s rb L (n' + 1) qb k0 bd by_ hbd hn hby0 k hrq l0 qs hl hd (by omega) hL hX
    rw [hqq] at hest hq hval hin
    have hmx : min (top / v) (4294967296 - 1) < 4294967296 := Nat.lt_of_le_of_lt (Nat.min_le_right _ _) (by decide)
    obtain ⟨σ1, k1, k2, k3⟩ := hin (min (top / v) (4294967296 - 1) - q) (min (top / v) (4294967296 - 1)) σ (by omega) hmx hr hqr
    obtain ⟨σ2, s1, q2, u2⟩ := RowD.st k3 (i := k) (by omega) q
    obtain ⟨σ3, e3⟩ := ih _ (qs.set k q) σ2 (by omega) (by simp [pad]; omega) hd' (by simpa using hql) (Dg_set hqd hq) hX' (by
      have hdr : (qs.set k q).drop k = q :: qs.drop (k + 1) := by
        rw [List.drop_eq_getElem_cons (by simp; omega)]
        simp [List.drop_set]
      rw [hdr, hA, hval, val, Nat.pow_succ]
      generalize val 4294967296 (qs.drop (k + 1)) = V
      have e1 : by_ * (4294967296 ^ k * (q + 4294967296 * V)) = by_ * q * 4294967296 ^ k + by_ * (4294967296 ^ k * 4294967296 * V) := by
        rw [Nat.mul_add, Nat.mul_add, Nat.mul_assoc by_ q, Nat.mul_comm q, Nat.mul_assoc (4294967296 ^ k)]
      rw [e1]; omega) (k2.but hrq u2) q2 (fun i hi => by
      rw [at1_set _ _ _ _ (by omega), if_neg (by omega)]; exact hz i (by omega))
    refine ⟨σ3, ?_⟩
    rw [← e3]
    have hk1 : ((k + 1 : Nat) : Int) - 1 = (k : Int) := by omega
    rw [hk1]
    have hsq := sq53 s rb L (n' + 1) qb k0 bd k q σ1 σ2 (by omega) (wrap32_id (by omega) (by omega)) s1 (wrapA_id (by omega) (by omega))
    refine Eq.trans ?_ (k1.trans hsq)
    have w2 : wrapA .i64 ((k : Int) + ((n' + 1 : Nat) : Int)) = ((k + (n' + 1) : Nat) : Int) := by rw [wrapA_id (by omega) (by omega)]; omega
    have w3 : wrapA .i64 (((k + (n' + 1) : Nat) : Int) - 1) = ((k + n' : Nat) : Int) := by rw [wrapA_id (by omega) (by omega)]; omega
    have w7 : wrapA .i64 (((n' + 1 : Nat) : Int) - 1) = (n' : Int) := by rw [wrapA_id (by omega) (by omega)]; omega
    have w6 : wrapA .u64 (t0 : Int) = (t0 : Int) := w64 htop2
    have c3 : wrapA .u64 ((top : Int) / (v : Int)) = ((top / v : Nat) : Int) := by
      rw [← Int.natCast_ediv]
      exact w64 (Nat.le_trans (Nat.div_le_self _ _) htop0)
    have c4 : minmaxA false [.int .u64 ((top / v : Nat) : Int), .int .u64 4294967295] = some (.int .u64 ((min (top / v) (4294967296 - 1) : Nat) : Int)) := by
      generalize top / v = y
      simp only [minmaxA, mmStep]
      by_cases h : y ≤ 4294967295
      · rw [Nat.min_eq_left (by omega)]; simp; omega
      · rw [Nat.min_eq_right (by omega)]; simp; omega
    exact so53 s rb L (n' + 1) qb k0 bd k (k + (n' + 1)) (k + n') n' X1 X0 t0 top v (top / v) _ σ w2 w3 (by omega) (by omega) r1 r0 (w64 (by omega)) (w64 (by omega)) c1 w6 c2 w7 (by omega) r2 hv0 (w64 (by omega)) c3 c4
theorem top_up {b : Nat} (hb : 0 < b) : ∃ n' v, (dg 4294967296 b).length = n' + 1 ∧ at1 (dg 4294967296 b) n' = v ∧ 0 < v ∧ v < 4294967296 ∧ 32 - bl v < 32 ∧ b * 2 ^ (32 - bl v) < 4294967296 ^ (n' + 1) ∧ (dg 4294967296 (b * 2 ^ (32 - bl v))).length = n' + 1 ∧ 4294967296 ^ n' * 2 ^ (32 - bl v) ≤ b * 2 ^ (32 - bl v) := by
  have hpos := (dg_len_pos (B := 4294967296) (by decide) (n := b)).2 hb
  obtain ⟨n', hn⟩ : ∃ n', (dg 4294967296 b).length = n' + 1 := ⟨(dg 4294967296 b).length - 1, by omega⟩
  have hd := dg_Dg (B := 4294967296) (by decide) b
  have hvB := at1_lt (B := 4294967296) (by decide) hd n'
  have hval : b = val 4294967296 ((dg 4294967296 b).take n') + 4294967296 ^ n' * at1 (dg 4294967296 b) n' := by
    have h1 := val_dg (B := 4294967296) (by decide) b
    have h2 := val_take_succ 4294967296 (dg 4294967296 b) n'
    rw [List.take_of_length_le (show (dg 4294967296 b).length ≤ n' + 1 by omega), h1] at h2
    exact h2
  have hlow : val 4294967296 ((dg 4294967296 b).take n') < 4294967296 ^ n' := by
    have := val_lt (by decide) (Dg_take hd n')
    rwa [List.length_take, hn, Nat.min_eq_left (by omega)] at this
  have hv0 : 0 < at1 (dg 4294967296 b) n' := by
    rcases Nat.eq_zero_or_pos (at1 (dg 4294967296 b) n') with h | h
    · rw [h, Nat.mul_zero, Nat.add_zero] at hval
      have : (dg 4294967296 b).length ≤ n' := dg_len_le (by decide) (by omega)
      omega
    · exact h
  obtain ⟨v, hv⟩ : ∃ v, at1 (dg 4294967296 b) n' = v := ⟨_, rfl⟩
  rw [hv] at hvB hval hv0
  obtain ⟨b1, b2, b3⟩ := bl_bounds hv0
  have hb32 := bl_le (x := v) (k := 32) (by simpa using hvB)
  have hlt : b * 2 ^ (32 - bl v) < 4294967296 ^ (n' + 1) := by
    have h1 : b < 4294967296 ^ n' * 2 ^ bl v := by
      have : 4294967296 ^ n' * (v + 1) ≤ 4294967296 ^ n' * 2 ^ bl v := Nat.mul_le_mul_left _ b3
      rw [Nat.mul_add, Nat.mul_one] at this
      omega
    have h2 : b * 2 ^ (32 - bl v) < 4294967296 ^ n' * 2 ^ bl v * 2 ^ (32 - bl v) := Nat.mul_lt_mul_of_pos_right h1 (Nat.two_pow_pos _)
    rw [Nat.mul_assoc, ← Nat.pow_add, show bl v + (32 - bl v) = 32 by omega] at h2
    rw [Nat.pow_succ]
    exact h2
  have hge : 4294967296 ^ n' ≤ b := by
    have : 4294967296 ^ n' * 1 ≤ 4294967296 ^ n' * v := Nat.mul_le_mul_left _ hv0
    omega
  have hge2 : 4294967296 ^ n' * 2 ^ (32 - bl v) ≤ b * 2 ^ (32 - bl v) := Nat.mul_le_mul_right _ hge
  refine ⟨n', v, hn, hv, hv0, hvB, by omega, hlt, Nat.le_antisymm (dg_len_le (by decide) hlt) ?_, hge2⟩
  rcases Nat.lt_or_ge n' (dg 4294967296 (b * 2 ^ (32 - bl v))).length with h | h
  · exact h
  · exfalso
    have h1 := lt_dg_len (B := 4294967296) (by decide) (b * 2 ^ (32 - bl v))
    have h2 : 4294967296 ^ (dg 4294967296 (b * 2 ^ (32 - bl v))).length ≤ 4294967296 ^ n' := Nat.pow_le_pow_right (by decide) h
    have h3 : 4294967296 ^ n' * 1 ≤ 4294967296 ^ n' * 2 ^ (32 - bl v) := Nat.mul_le_mul_left _ (Nat.two_pow_pos _)
    omega
set_option maxHeartbeats 1000000 in
theorem v53g (a b : Nat) (hb : 0 < b) (hab : b ≤ a) (ha : (dg 4294967296 a).length < 100000000) : FnF TT 53 [NA a, NA b] (.tup [NA (a / b), NA (a % b)]) := by
  have hle : (dg 4294967296 b).length ≤ (dg 4294967296 a).length := Nat.le_of_not_lt fun hlt => by
    have := dg_len_lt (B := 4294967296) (by decide) hlt; omega
  obtain ⟨n', v, hn, hv, hv0, hvB, hs, hby, hbn, hge⟩ := top_up hb
  obtain ⟨s, hs0⟩ : ∃ s, 32 - bl v = s := ⟨_, rfl⟩
  have hz32 := v61 v (by omega)
  rw [hs0] at hs hby hbn hge hz32
  obtain ⟨z, hz, hz1, hz2⟩ := v36 a b (by omega) (by omega)
  have c1 := hz ⟨[], 0⟩ [NA a, NA b] rfl
  have r1 := fun σ : St => lp_dg (σ := σ) (k := .u32) (l := dg 4294967296 b) (i := n') (by omega)
  rw [hv] at r1
  have c2 := hz32 ⟨[], 0⟩ [.int .u32 v] rfl
  obtain ⟨o1, c3⟩ := n62 (dg 4294967296 a) (dg 4294967296 a).length s rfl (dg_Dg (by decide) a) hs (by omega) ⟨[], 0⟩ [.lst (dg 4294967296 a).length (dgs .u32 (dg 4294967296 a)), .int .i64 s] rfl
  obtain ⟨ud, uv⟩ := up_dg (B := 4294967296) (s := s) (by decide) (Nat.pow_le_pow_right (n := 2) (by decide) (show s ≤ 32 by omega)) (dg_Dg (by decide) a)
  obtain ⟨ud2, uv2⟩ := up_dg (B := 4294967296) (s := s) (by decide) (Nat.pow_le_pow_right (n := 2) (by decide) (show s ≤ 32 by omega)) (dg_Dg (by decide) b)
  rw [val_dg (by decide)] at uv uv2
  have ul := upG_length 4294967296 s (dg 4294967296 a) (dg 4294967296 a).length 0 0
  have ul2 := upG_length 4294967296 s (dg 4294967296 b) (dg 4294967296 b).length 0 0
  obtain ⟨σ1, hσ1⟩ : ∃ σ1, (⟨[], 0⟩ : St).push ⟨dgs .u32 (upG 4294967296 s (dg 4294967296 a) (dg 4294967296 a).length 0 0), 1, o1⟩ = σ1 := ⟨_, rfl⟩
  have hr1 : RowD σ1 0 .u32 (upG 4294967296 s (dg 4294967296 a) (dg 4294967296 a).length 0 0) := by subst hσ1; exact RowA.push
  have hn1 : σ1.n = 1 := by subst hσ1; rfl
  rw [hσ1] at c3
  obtain ⟨o2, c4⟩ := n62 (dg 4294967296 b) (dg 4294967296 b).length s rfl (dg_Dg (by decide) b) hs (by omega) σ1 [.lst (dg 4294967296 b).length (dgs .u32 (dg 4294967296 b)), .int .i64 s] rfl
  have hr2 : RowD (σ1.push ⟨dgs .u32 (upG 4294967296 s (dg 4294967296 b) (dg 4294967296 b).length 0 0), 1, o2⟩) σ1.n .u32 (upG 4294967296 s (dg 4294967296 b) (dg 4294967296 b).length 0 0) := RowA.push
  obtain ⟨σ3, c5, u3⟩ := t51 (len := (dg 4294967296 b).length + 1) (cap := (dg 4294967296 b).length + 1) (by omega) (by omega) (Nat.le_refl _) hr2 ud2
  rw [uv2] at c5
  have hr3 : RowD σ3 0 .u32 (upG 4294967296 s (dg 4294967296 a) (dg 4294967296 a).length 0 0) := (RowA.pushed hr1).but (by omega) u3
  have hn3 : σ3.n = 2 := by rw [u3.1]; show σ1.n + 1 = 2; omega
  obtain ⟨k0, hk0⟩ : ∃ k0, (dg 4294967296 a).length + 1 - (n' + 1) = k0 := ⟨_, rfl⟩
  have c6 := mkU σ3 k0 (by omega)
  rw [hn3] at c6
  have hr4 : RowD (σ3.push ⟨dgs .u32 (List.replicate k0 0), 1, false⟩) 0 .u32 (upG 4294967296 s (dg 4294967296 a) (dg 4294967296 a).length 0 0) := RowA.pushed hr3
  have hq4 : RowD (σ3.push ⟨dgs .u32 (List.replicate k0 0), 1, false⟩) 2 .u32 (List.replicate k0 0) := by rw [← hn3]; exact RowA.push
  have hA : a * 2 ^ s < b * 2 ^ s * 4294967296 ^ k0 := by
    have h1 := lt_dg_len (B := 4294967296) (by decide) a
    have h2 : a * 2 ^ s < 4294967296 ^ (dg 4294967296 a).length * 2 ^ s := Nat.mul_lt_mul_of_pos_right h1 (Nat.two_pow_pos _)
    have h3 : 4294967296 ^ n' * 2 ^ s * 4294967296 ^ k0 ≤ b * 2 ^ s * 4294967296 ^ k0 := Nat.mul_le_mul_right _ hge
    have h4 : 4294967296 ^ n' * 2 ^ s * 4294967296 ^ k0 = 4294967296 ^ (dg 4294967296 a).length * 2 ^ s := by
      rw [Nat.mul_right_comm, ← Nat.pow_add]; congr 2; omega
    omega
  obtain ⟨σ5, e5⟩ := ou53 s 0 ((dg 4294967296 a).length + 1) (n' + 1) 2 k0 (dg 4294967296 (b * 2 ^ s)) (b * 2 ^ s) (a * 2 ^ s) hs rfl hbn.symm (Nat.mul_pos hb (Nat.two_pow_pos _)) (by decide) (by omega) (by omega) k0 _ _ _ (Nat.le_refl _) ul ud (by simp) (Dg_zeros (by decide) _) (by rw [uv]; exact hA) (by
    rw [uv, List.drop_eq_nil_of_le (by simp)]; simp [val]) hr4 hq4 (fun i hi => by simp [at1, hi])
  refine FnF.mkv fn53 rfl md53 ⟨σ5, ?_⟩ (fun _ => rfl)
  have hdiv : a * 2 ^ s / (b * 2 ^ s) = a / b := Nat.mul_div_mul_right _ _ (Nat.two_pow_pos _)
  have hmod : a * 2 ^ s % (b * 2 ^ s) / 2 ^ s = a % b := by rw [Nat.mul_mod_mul_right, Nat.mul_div_cancel _ (Nat.two_pow_pos _)]
  rw [hdiv, hmod] at e5
  rw [← e5]
  exact sb53 s 0 ((dg 4294967296 a).length + 1) (n' + 1) 2 k0 (dg 4294967296 (b * 2 ^ s)) (dg 4294967296 a).length (dg 4294967296 b).length (dg 4294967296 a) (dg 4294967296 b) n' v z _ ⟨[], 0⟩ σ1 _ σ3 _ c1 (by omega) (by rw [wrapA_id (by omega) (by omega)]; omega) (by omega) r1 c2 c3 c4 (by rw [c5, NA, hbn]) (by rw [wrapA_id (by omega) (by omega)]; omega) c6 (wrapA_id (by omega) (by omega))
theorem v53l (a b : Nat) (hab : a < b) (ha : (dg 4294967296 b).length < 100000000) : FnF TT 53 [NA a, NA b] (.tup [.nilS, NA a]) := by
  have hle : (dg 4294967296 a).length ≤ (dg 4294967296 b).length := Nat.le_of_not_lt fun hlt => by
    have := dg_len_lt (B := 4294967296) (by decide) hlt; omega
  obtain ⟨z, hz, hz1, hz2⟩ := v36 a b (by omega) (by omega)
  have c1 := hz ⟨[], 0⟩ [NA a, NA b] rfl
  exact FnF.mkv fn53 rfl md53 ⟨_, sz53 _ _ _ _ z _ c1 (hz1.2 hab)⟩ (fun _ => rfl)
/-- The quotient (nil for 0, or not) and the rest. -/
theorem v53 (a b : Nat) (hb : 0 < b) (ha : (dg 4294967296 a).length < 100000000) (hb2 : (dg 4294967296 b).length < 100000000) : ∃ q, FnF TT 53 [NA a, NA b] (.tup [q, NA (a % b)]) ∧ (b ≤ a → q = NA (a / b)) := by
  by_cases h : b ≤ a
  · exact ⟨_, v53g a b hb h ha, fun _ => rfl⟩
  · refine ⟨.nilS, ?_, fun h2 => absurd h2 h⟩
    rw [Nat.mod_eq_of_lt (by omega)]
    exact v53l a b (by omega) hb2

noncomputable def b52 : Code := Tryd.f52.body.getD .skip
noncomputable def B52_0 : Code := (bodyC (bodyC (fstC (sndC b52))))
noncomputable def K52_0 : List It := .lp B52_0 :: .blk 0 :: .code (sndC (sndC b52)) :: []
theorem xl52_0 {fi : FI} {env : Env} {σ : St} : exI TT fi K52_0 env σ = exI TT fi (.code B52_0 :: K52_0) env σ := by unfold K52_0; exact xI_lp
noncomputable def R52_0_0 : List It := .code (sndC (sndC b52)) :: []
theorem eK52_0_0 : exitA 0 K52_0 = some R52_0_0 := rfl
theorem st52 (la lb lr : Nat) (a b r : List Nat) (q : AV) (σ σ1 : St) (hb : 0 < lb) (c1 : callI TT 53 [.lst la (dgs .u32 a), .lst lb (dgs .u32 b)] σ = some (.tup [q, .lst lr (dgs .u32 r)], σ1)) :
    exI TT (FI.of Tryd.f52 (TT.an 52)) K52_0 [(0, .lst la (dgs .u32 a)), (1, .lst lb (dgs .u32 b))] σ = exI TT (FI.of Tryd.f52 (TT.an 52)) K52_0 [(0, .lst lb (dgs .u32 b)), (1, .lst lr (dgs .u32 r))] σ1 := by
  have hb2 : (0 : Int) < (lb : Int) := by omega
  rw [fi52]
  conv => lhs; rw [xl52_0]
  simp only [B52_0, b52, Tryd.f52, Option.getD, fstC, sndC, bodyC, thnC, elsC]
  simp (maxSteps := 1000000) (disch := omega) [eK52_0_0, c1]
theorem en52 (la : Nat) (a : List Nat) (σ : St) : exI TT (FI.of Tryd.f52 (TT.an 52)) K52_0 [(0, .lst la (dgs .u32 a)), (1, .lst 0 (dgs .u32 []))] σ = some (.lst la (dgs .u32 a), σ) := by
  rw [fi52, xl52_0]
  simp only [B52_0, b52, Tryd.f52, Option.getD, fstC, sndC, bodyC, thnC, elsC]
  simp (maxSteps := 1000000) (disch := omega) [eK52_0_0]
  simp only [R52_0_0, b52, Tryd.f52, Option.getD, fstC, sndC, bodyC, thnC, elsC]
  simp (maxSteps := 1000000) (disch := omega) [eK52_0_0]
theorem l52 (σ : St) : ∀ (b a : Nat), (dg 4294967296 a).length < 100000000 → (dg 4294967296 b).length < 100000000 → exI TT (FI.of Tryd.f52 (TT.an 52)) K52_0 [(0, NA a), (1, NA b)] σ = some (NA (Nat.gcd a b), σ) := by
  intro b
  induction b using Nat.strongRecOn with
  | ind b ih =>
    intro a ha hb
    rcases Nat.eq_zero_or_pos b with rfl | hpos
    · rw [Nat.gcd_zero_right]
      exact en52 _ _ σ
    · obtain ⟨q, hq, _⟩ := v53 a b hpos ha hb
      have hl : (dg 4294967296 (a % b)).length < 100000000 := by
        have h1 : (dg 4294967296 (a % b)).length ≤ (dg 4294967296 b).length := dg_len_le (by decide) (Nat.lt_trans (Nat.mod_lt _ hpos) (lt_dg_len (by decide) b))
        omega
      have h := ih (a % b) (Nat.mod_lt _ hpos) b hb hl
      rw [gcd_step a b hpos, ← h]
      exact st52 _ _ _ _ _ _ q σ σ ((dg_len_pos (by decide)).2 hpos) (hq.pure σ rfl rfl)
theorem v52 (a b : Nat) (ha : (dg 4294967296 a).length < 100000000) (hb : (dg 4294967296 b).length < 100000000) : FnF TT 52 [NA a, NA b] (NA (Nat.gcd a b)) := by
  have h := l52 ⟨[], 0⟩ b a ha hb
  refine FnF.mkv fn52 rfl md52 ⟨⟨[], 0⟩, ?_⟩ (fun _ => rfl)
  rw [← h]
  simp only [NA]
  rw [fi52]
  simp (maxSteps := 1000000) (disch := omega) [eK52_0_0]
  rfl

theorem blt_dec (a b : Nat) : Nat.blt a b = decide (a < b) := by
  by_cases h : a < b
  · have : Nat.blt a b = true := by unfold Nat.blt; rw [Nat.ble_eq]; exact h
    simp [this, h]
  · have : Nat.blt a b = false := by
      cases hx : Nat.blt a b with
      | false => rfl
      | true => exact (h (Nat.le_of_ble_eq_true hx)).elim
    simp [this, h]
theorem ex1 {X : Option (AV × St)} {v : AV} (h : X.map Prod.fst = some v) : ∃ σ1, X = some (v, σ1) := by
  cases X with
  | none => simp at h
  | some r => obtain ⟨a, b⟩ := r; simp at h; subst h; exact ⟨b, rfl⟩
theorem v31 (n : Int) (h : -9223372036854775807 ≤ n) (h2 : n ≤ 9223372036854775807) : FnV TT 31 [.int .i64 n] (.int .i64 (n.natAbs : Nat)) := by
  refine FnV.mk fn31 rfl md31 ⟨⟨[], 0⟩, ?_⟩ (fun _ => rfl) rfl
  have hw : wrapA .i64 (-n) = -n := wrapA_id (by omega) (by omega)
  have hm : minmaxA true [.int .i64 n, .int .i64 (-n)] = some (.int .i64 (n.natAbs : Nat)) := by
    simp only [minmaxA, mmStep]
    by_cases h : -n > n <;> simp [h] <;> omega
  rw [fi31]
  simp (maxSteps := 1000000) [hw, hm]

set_option maxHeartbeats 8000000 in
theorem k26 (n d : Int) (m : Nat) (b : Bool) (nx ny : Nat) (lx ly : List Nat) (hb : (!ileb 0 n) = b) (c1 : ∀ σ, callI TT 31 [.int .i64 n] σ = some (.int .i64 m, σ)) (c2 : ∀ σ, callI TT 30 [.int .i64 m] σ = some (.lst nx (dgs .u32 lx), σ)) (c3 : ∀ σ, callI TT 30 [.int .i64 d] σ = some (.lst ny (dgs .u32 ly), σ)) :
    ∃ σ1, exI TT (FI.of Tryd.f26 (TT.an 26)) [.code (Tryd.f26.body.getD .skip)] (paramsE 0 [.agg [.int .i64 n, .int .i64 d]]) ⟨[], 0⟩ = some (.agg [.bool b, .lst nx (dgs .u32 lx), .lst ny (dgs .u32 ly)], σ1) := by
  refine ex1 ?_
  rw [fi26]
  simp only [Tryd.f26, Option.getD]
  simp (maxSteps := 1000000) (disch := omega) [cellsAt, getCells, takeN, dropN, fieldAddrA, allOne, AV.one, n_push, storeCellsA, putN, overN, St.push, St.get, St.set, hget, hset, blt_dec, buildA, sizesOf, fillA, putCells, List.take_succ_cons, List.take_zero, List.drop_succ_cons, List.drop_zero, List.nil_append, List.cons_append, List.length_cons, List.length_nil, eqvs_dgs, hb, c1, c2, c3]

set_option maxHeartbeats 8000000 in
theorem k22 (n : Int) (b : Bool) (nx ny : Nat) (lx ly : List Nat) (c1 : ∀ σ, callI TT 26 [.agg [.int .i64 n, .int .i64 1]] σ = some (.agg [.bool b, .lst nx (dgs .u32 lx), .lst ny (dgs .u32 ly)], σ)) :
    ∃ σ1, exI TT (FI.of Tryd.f22 (TT.an 22)) [.code (Tryd.f22.body.getD .skip)] (paramsE 0 [.int .i64 n]) ⟨[], 0⟩ = some (.agg [.bool b, .lst nx (dgs .u32 lx), .lst ny (dgs .u32 ly)], σ1) := by
  refine ex1 ?_
  rw [fi22]
  simp only [Tryd.f22, Option.getD]
  simp (maxSteps := 1000000) (disch := omega) [cellsAt, getCells, takeN, dropN, fieldAddrA, allOne, AV.one, n_push, storeCellsA, putN, overN, St.push, St.get, St.set, hget, hset, blt_dec, buildA, sizesOf, fillA, putCells, List.take_succ_cons, List.take_zero, List.drop_succ_cons, List.drop_zero, List.nil_append, List.cons_append, List.length_cons, List.length_nil, eqvs_dgs, c1]

set_option maxHeartbeats 8000000 in
theorem k17 (n d : Int) (m : Nat) (b b' : Bool) (nu nv nx ny : Nat) (lu lv lx ly : List Nat) (hb : (!ileb 0 n) = b) (c1 : ∀ σ, callI TT 31 [.int .i64 n] σ = some (.int .i64 m, σ)) (c2 : ∀ σ, callI TT 30 [.int .i64 m] σ = some (.lst nu (dgs .u32 lu), σ)) (c3 : ∀ σ, callI TT 30 [.int .i64 d] σ = some (.lst nv (dgs .u32 lv), σ)) (c4 : ∀ σ, callI TT 32 [.agg [.bool b, .lst nu (dgs .u32 lu), .lst nv (dgs .u32 lv)]] σ = some (.agg [.bool b', .lst nx (dgs .u32 lx), .lst ny (dgs .u32 ly)], σ)) :
    ∃ σ1, exI TT (FI.of Tryd.f17 (TT.an 17)) [.code (Tryd.f17.body.getD .skip)] (paramsE 0 [.int .i64 n, .int .i64 d]) ⟨[], 0⟩ = some (.agg [.bool b', .lst nx (dgs .u32 lx), .lst ny (dgs .u32 ly)], σ1) := by
  refine ex1 ?_
  rw [fi17]
  simp only [Tryd.f17, Option.getD]
  simp (maxSteps := 1000000) (disch := omega) [cellsAt, getCells, takeN, dropN, fieldAddrA, allOne, AV.one, n_push, storeCellsA, putN, overN, St.push, St.get, St.set, hget, hset, blt_dec, buildA, sizesOf, fillA, putCells, List.take_succ_cons, List.take_zero, List.drop_succ_cons, List.drop_zero, List.nil_append, List.cons_append, List.length_cons, List.length_nil, eqvs_dgs, hb, c1, c2, c3, c4]

set_option maxHeartbeats 8000000 in
theorem k32z (b b' : Bool) (ny nu nv : Nat) (lx ly lu lv : List Nat) (c1 : ∀ σ, callI TT 22 [.int .i64 0] σ = some (.agg [.bool b', .lst nu (dgs .u32 lu), .lst nv (dgs .u32 lv)], σ)) :
    ∃ σ1, exI TT (FI.of Tryd.f32 (TT.an 32)) [.code (Tryd.f32.body.getD .skip)] (paramsE 0 [.agg [.bool b, .lst 0 (dgs .u32 lx), .lst ny (dgs .u32 ly)]]) ⟨[], 0⟩ = some (.agg [.bool b', .lst nu (dgs .u32 lu), .lst nv (dgs .u32 lv)], σ1) := by
  refine ex1 ?_
  rw [fi32]
  simp only [Tryd.f32, Option.getD]
  simp (maxSteps := 1000000) (disch := omega) [cellsAt, getCells, takeN, dropN, fieldAddrA, allOne, AV.one, n_push, storeCellsA, putN, overN, St.push, St.get, St.set, hget, hset, blt_dec, buildA, sizesOf, fillA, putCells, List.take_succ_cons, List.take_zero, List.drop_succ_cons, List.drop_zero, List.nil_append, List.cons_append, List.length_cons, List.length_nil, eqvs_dgs, c1]
theorem k32 (b : Bool) (nx ny nz nu nv : Nat) (lx ly lz lu lv : List Nat) (r1 r2 : AV) (hn : 0 < nx) (c1 : ∀ σ, callI TT 52 [.lst nx (dgs .u32 lx), .lst ny (dgs .u32 ly)] σ = some (.lst nz (dgs .u32 lz), σ)) (c2 : ∀ σ, callI TT 53 [.lst nx (dgs .u32 lx), .lst nz (dgs .u32 lz)] σ = some (.tup [.lst nu (dgs .u32 lu), r1], σ)) (c3 : ∀ σ, callI TT 53 [.lst ny (dgs .u32 ly), .lst nz (dgs .u32 lz)] σ = some (.tup [.lst nv (dgs .u32 lv), r2], σ)) :
    ∃ σ1, exI TT (FI.of Tryd.f32 (TT.an 32)) [.code (Tryd.f32.body.getD .skip)] (paramsE 0 [.agg [.bool b, .lst nx (dgs .u32 lx), .lst ny (dgs .u32 ly)]]) ⟨[], 0⟩ = some (.agg [.bool b, .lst nu (dgs .u32 lu), .lst nv (dgs .u32 lv)], σ1) := by
  have hn0 : ¬ (nx : Int) = 0 := by omega
  refine ex1 ?_
  rw [fi32]
  simp only [Tryd.f32, Option.getD]
  simp (maxSteps := 1000000) (disch := omega) [cellsAt, getCells, takeN, dropN, fieldAddrA, allOne, AV.one, n_push, storeCellsA, putN, overN, St.push, St.get, St.set, hget, hset, blt_dec, buildA, sizesOf, fillA, putCells, List.take_succ_cons, List.take_zero, List.drop_succ_cons, List.drop_zero, List.nil_append, List.cons_append, List.length_cons, List.length_nil, eqvs_dgs, c1, c2, c3]

set_option maxHeartbeats 8000000 in
theorem k56 (b : Bool) (nx ny : Nat) (lx ly : List Nat) :
    ∃ σ1, exI TT (FI.of Tryd.f56 (TT.an 56)) [.code (Tryd.f56.body.getD .skip)] (paramsE 0 [.agg [.bool b, .lst nx (dgs .u32 lx), .lst ny (dgs .u32 ly)]]) ⟨[], 0⟩ = some (.agg [.bool (!b && decide (nx ≠ 0)), .lst nx (dgs .u32 lx), .lst ny (dgs .u32 ly)], σ1) := by
  refine ex1 ?_
  rw [fi56]
  simp only [Tryd.f56, Option.getD]
  cases b
  · by_cases hn : nx = 0
    · subst hn
      simp (maxSteps := 1000000) (disch := omega) [cellsAt, getCells, takeN, dropN, fieldAddrA, allOne, AV.one, n_push, storeCellsA, putN, overN, St.push, St.get, St.set, hget, hset, blt_dec, buildA, sizesOf, fillA, putCells, List.take_succ_cons, List.take_zero, List.drop_succ_cons, List.drop_zero, List.nil_append, List.cons_append, List.length_cons, List.length_nil, eqvs_dgs]
    · have h1 : (0 : Int) < (nx : Int) := by omega
      simp (maxSteps := 1000000) (disch := omega) [cellsAt, getCells, takeN, dropN, fieldAddrA, allOne, AV.one, n_push, storeCellsA, putN, overN, St.push, St.get, St.set, hget, hset, blt_dec, buildA, sizesOf, fillA, putCells, List.take_succ_cons, List.take_zero, List.drop_succ_cons, List.drop_zero, List.nil_append, List.cons_append, List.length_cons, List.length_nil, eqvs_dgs, hn]
  ·
    simp (maxSteps := 1000000) (disch := omega) [cellsAt, getCells, takeN, dropN, fieldAddrA, allOne, AV.one, n_push, storeCellsA, putN, overN, St.push, St.get, St.set, hget, hset, blt_dec, buildA, sizesOf, fillA, putCells, List.take_succ_cons, List.take_zero, List.drop_succ_cons, List.drop_zero, List.nil_append, List.cons_append, List.length_cons, List.length_nil, eqvs_dgs]

set_option maxHeartbeats 8000000 in
theorem k42 (b : Bool) (nx ny : Nat) (lx ly : List Nat) :
    ∃ σ1, exI TT (FI.of Tryd.f42 (TT.an 42)) [.code (Tryd.f42.body.getD .skip)] (paramsE 0 [.agg [.bool b, .lst nx (dgs .u32 lx), .lst ny (dgs .u32 ly)]]) ⟨[], 0⟩ = some (.bool (decide (nx = 0)), σ1) := by
  refine ex1 ?_
  rw [fi42]
  simp only [Tryd.f42, Option.getD]
  by_cases hn : nx = 0
  · subst hn
    simp (maxSteps := 1000000) (disch := omega) [cellsAt, getCells, takeN, dropN, fieldAddrA, allOne, AV.one, n_push, storeCellsA, putN, overN, St.push, St.get, St.set, hget, hset, blt_dec, buildA, sizesOf, fillA, putCells, List.take_succ_cons, List.take_zero, List.drop_succ_cons, List.drop_zero, List.nil_append, List.cons_append, List.length_cons, List.length_nil, eqvs_dgs]
  · have h1 : ¬ (nx : Int) = 0 := by omega
    simp (maxSteps := 1000000) (disch := omega) [cellsAt, getCells, takeN, dropN, fieldAddrA, allOne, AV.one, n_push, storeCellsA, putN, overN, St.push, St.get, St.set, hget, hset, blt_dec, buildA, sizesOf, fillA, putCells, List.take_succ_cons, List.take_zero, List.drop_succ_cons, List.drop_zero, List.nil_append, List.cons_append, List.length_cons, List.length_nil, eqvs_dgs, hn]

set_option maxHeartbeats 8000000 in
theorem k27 (b c b' : Bool) (nx ny nu nv nr nz : Nat) (lx ly lu lv lr lz : List Nat) (q : Bool) (c1 : ∀ σ, callI TT 41 [.agg [.bool b, .lst nx (dgs .u32 lx), .lst ny (dgs .u32 ly)], .agg [.bool c, .lst nu (dgs .u32 lu), .lst nv (dgs .u32 lv)]] σ = some (.agg [.bool b', .lst nr (dgs .u32 lr), .lst nz (dgs .u32 lz)], σ)) (c3 : ∀ σ, callI TT 42 [.agg [.bool b', .lst nr (dgs .u32 lr), .lst nz (dgs .u32 lz)]] σ = some (.bool q, σ)) :
    ∃ σ1, exI TT (FI.of Tryd.f27 (TT.an 27)) [.code (Tryd.f27.body.getD .skip)] (paramsE 0 [.agg [.bool b, .lst nx (dgs .u32 lx), .lst ny (dgs .u32 ly)], .agg [.bool c, .lst nu (dgs .u32 lu), .lst nv (dgs .u32 lv)]]) ⟨[], 0⟩ = some (.int .i64 (if q = true then 0 else if b' = true then -1 else 1), σ1) := by
  refine ex1 ?_
  rw [fi27]
  simp only [Tryd.f27, Option.getD]
  cases q <;> cases b' <;>
  simp (maxSteps := 1000000) (disch := omega) [cellsAt, getCells, takeN, dropN, fieldAddrA, allOne, AV.one, n_push, storeCellsA, putN, overN, St.push, St.get, St.set, hget, hset, blt_dec, buildA, sizesOf, fillA, putCells, List.take_succ_cons, List.take_zero, List.drop_succ_cons, List.drop_zero, List.nil_append, List.cons_append, List.length_cons, List.length_nil, eqvs_dgs, c1, c3]

set_option maxHeartbeats 8000000 in
theorem k18 (b : Bool) (nx ny : Nat) (lx ly : List Nat) (z1 z2 : Int) (q1 q2 : Bool) (h1 : q1 = true → 0 ≤ z1 ∧ z1 ≤ 1000000000000000000) (c1 : ∀ σ, callI TT 33 [.lst nx (dgs .u32 lx)] σ = some (.tup [.int .i64 z1, .bool q1], σ)) (c2 : ∀ σ, callI TT 33 [.lst ny (dgs .u32 ly)] σ = some (.tup [.int .i64 z2, .bool q2], σ)) :
    ∃ σ1, exI TT (FI.of Tryd.f18 (TT.an 18)) [.code (Tryd.f18.body.getD .skip)] (paramsE 0 [.agg [.bool b, .lst nx (dgs .u32 lx), .lst ny (dgs .u32 ly)]]) ⟨[], 0⟩ = some (if (q1 && q2) = true then .tup [.agg [.int .i64 (if b = true then -z1 else z1), .int .i64 z2], .bool true] else .tup [.agg [.int .i64 0, .int .i64 0], .bool false], σ1) := by
  cases q1 with
  | false =>
    refine ex1 ?_
    rw [fi18]
    simp only [Tryd.f18, Option.getD]
    simp (maxSteps := 1000000) (disch := omega) [cellsAt, getCells, takeN, dropN, fieldAddrA, allOne, AV.one, n_push, storeCellsA, putN, overN, St.push, St.get, St.set, hget, hset, blt_dec, buildA, sizesOf, fillA, putCells, List.take_succ_cons, List.take_zero, List.drop_succ_cons, List.drop_zero, List.nil_append, List.cons_append, List.length_cons, List.length_nil, eqvs_dgs, c1, c2]
  | true =>
    obtain ⟨h1, h2⟩ := h1 rfl
    have hw : wrapA .i64 (-z1) = -z1 := wrapA_id (by omega) (by omega)
    refine ex1 ?_
    rw [fi18]
    simp only [Tryd.f18, Option.getD]
    cases q2 <;> cases b <;>
    simp (maxSteps := 1000000) (disch := omega) [cellsAt, getCells, takeN, dropN, fieldAddrA, allOne, AV.one, n_push, storeCellsA, putN, overN, St.push, St.get, St.set, hget, hset, blt_dec, buildA, sizesOf, fillA, putCells, List.take_succ_cons, List.take_zero, List.drop_succ_cons, List.drop_zero, List.nil_append, List.cons_append, List.length_cons, List.length_nil, eqvs_dgs, c1, c2, hw, Int.zero_sub]

theorem hget_hset : ∀ (l : List (Nat × Blk)) (b c : Nat) (x : Blk), hget (hset l b x) c = if b = c then (hget l c).map (fun _ => x) else hget l c
  | [], b, c, x => by simp [hset, hget]
  | (i, y) :: r, b, c, x => by
    have ih := hget_hset r b c x
    simp only [hset, hget, nif_eq] at ih ⊢
    by_cases h1 : i = b
    · subst h1
      simp only [if_true, hget, nif_eq]
      by_cases h2 : i = c
      · subst h2; simp
      · simp [h2]
    · rw [if_neg h1]
      simp only [hget, nif_eq]
      by_cases h2 : i = c
      · subst h2
        have : ¬ b = i := fun e => h1 e.symm
        simp [this]
      · rw [if_neg h2, ih]
        simp [h2]
set_option maxHeartbeats 8000000 in
theorem k24 (b c b' : Bool) (nx ny nu nv ns nt nr nz : Nat) (lx ly lu lv ls lt lr lz : List Nat) (c1 : ∀ σ, callI TT 34 [.lst nx (dgs .u32 lx), .lst nu (dgs .u32 lu)] σ = some (.lst ns (dgs .u32 ls), σ)) (c2 : ∀ σ, callI TT 34 [.lst ny (dgs .u32 ly), .lst nv (dgs .u32 lv)] σ = some (.lst nt (dgs .u32 lt), σ)) (c3 : ∀ σ, callI TT 32 [.agg [.bool (b != c), .lst ns (dgs .u32 ls), .lst nt (dgs .u32 lt)]] σ = some (.agg [.bool b', .lst nr (dgs .u32 lr), .lst nz (dgs .u32 lz)], σ)) :
    ∃ σ1, exI TT (FI.of Tryd.f24 (TT.an 24)) [.code (Tryd.f24.body.getD .skip)] (paramsE 0 [.agg [.bool b, .lst nx (dgs .u32 lx), .lst ny (dgs .u32 ly)], .agg [.bool c, .lst nu (dgs .u32 lu), .lst nv (dgs .u32 lv)]]) ⟨[], 0⟩ = some (.agg [.bool b', .lst nr (dgs .u32 lr), .lst nz (dgs .u32 lz)], σ1) := by
  refine ex1 ?_
  rw [fi24]
  simp only [Tryd.f24, Option.getD]
  cases b <;> cases c <;> simp only [Bool.bne_true, Bool.bne_false, bne_self_eq_false, Bool.not_true, Bool.not_false] at c3 <;>
  simp (maxSteps := 1000000) (disch := omega) [cellsAt, getCells, takeN, dropN, fieldAddrA, allOne, AV.one, n_push, storeCellsA, putN, overN, St.push, St.get, St.set, hget, hset, blt_dec, buildA, sizesOf, fillA, putCells, List.take_succ_cons, List.take_zero, List.drop_succ_cons, List.drop_zero, List.nil_append, List.cons_append, List.length_cons, List.length_nil, eqvs_dgs, c1, c2, c3]

set_option maxHeartbeats 8000000 in
theorem k41 (b c c' b' : Bool) (nx ny nu nv nr nz : Nat) (lx ly lu lv lr lz : List Nat) (c1 : ∀ σ, callI TT 56 [.agg [.bool c, .lst nu (dgs .u32 lu), .lst nv (dgs .u32 lv)]] σ = some (.agg [.bool c', .lst nu (dgs .u32 lu), .lst nv (dgs .u32 lv)], σ)) (c3 : ∀ σ, callI TT 23 [.agg [.bool b, .lst nx (dgs .u32 lx), .lst ny (dgs .u32 ly)], .agg [.bool c', .lst nu (dgs .u32 lu), .lst nv (dgs .u32 lv)]] σ = some (.agg [.bool b', .lst nr (dgs .u32 lr), .lst nz (dgs .u32 lz)], σ)) :
    ∃ σ1, exI TT (FI.of Tryd.f41 (TT.an 41)) [.code (Tryd.f41.body.getD .skip)] (paramsE 0 [.agg [.bool b, .lst nx (dgs .u32 lx), .lst ny (dgs .u32 ly)], .agg [.bool c, .lst nu (dgs .u32 lu), .lst nv (dgs .u32 lv)]]) ⟨[], 0⟩ = some (.agg [.bool b', .lst nr (dgs .u32 lr), .lst nz (dgs .u32 lz)], σ1) := by
  refine ex1 ?_
  rw [fi41]
  simp only [Tryd.f41, Option.getD]
  cases b <;>
  simp (maxSteps := 1000000) (disch := omega) [cellsAt, getCells, takeN, dropN, fieldAddrA, allOne, AV.one, n_push, storeCellsA, putN, overN, St.push, St.get, St.set, hget, hset, blt_dec, buildA, sizesOf, fillA, putCells, List.take_succ_cons, List.take_zero, List.drop_succ_cons, List.drop_zero, List.nil_append, List.cons_append, List.length_cons, List.length_nil, eqvs_dgs, c1, c3]

set_option maxHeartbeats 8000000 in
theorem k23s (b c b' : Bool) (nx ny nu nv np nq nw nt nr nz : Nat) (lx ly lu lv lp lq lw lt lr lz : List Nat) (c1 : ∀ σ, callI TT 34 [.lst nx (dgs .u32 lx), .lst nv (dgs .u32 lv)] σ = some (.lst np (dgs .u32 lp), σ)) (c2 : ∀ σ, callI TT 34 [.lst nu (dgs .u32 lu), .lst ny (dgs .u32 ly)] σ = some (.lst nq (dgs .u32 lq), σ)) (c3 : ∀ σ, callI TT 34 [.lst ny (dgs .u32 ly), .lst nv (dgs .u32 lv)] σ = some (.lst nw (dgs .u32 lw), σ)) (hbc : b = c) (c4 : ∀ σ, callI TT 35 [.lst np (dgs .u32 lp), .lst nq (dgs .u32 lq)] σ = some (.lst nt (dgs .u32 lt), σ)) (c5 : ∀ σ, callI TT 32 [.agg [.bool b, .lst nt (dgs .u32 lt), .lst nw (dgs .u32 lw)]] σ = some (.agg [.bool b', .lst nr (dgs .u32 lr), .lst nz (dgs .u32 lz)], σ)) :
    ∃ σ1, exI TT (FI.of Tryd.f23 (TT.an 23)) [.code (Tryd.f23.body.getD .skip)] (paramsE 0 [.agg [.bool b, .lst nx (dgs .u32 lx), .lst ny (dgs .u32 ly)], .agg [.bool c, .lst nu (dgs .u32 lu), .lst nv (dgs .u32 lv)]]) ⟨[], 0⟩ = some (.agg [.bool b', .lst nr (dgs .u32 lr), .lst nz (dgs .u32 lz)], σ1) := by
  subst hbc
  refine ex1 ?_
  rw [fi23]
  simp only [Tryd.f23, Option.getD]
  cases b <;>
  simp (maxSteps := 1000000) (disch := omega) [cellsAt, getCells, takeN, dropN, fieldAddrA, allOne, AV.one, n_push, storeCellsA, putN, overN, St.push, St.get, St.set, hget, hset, blt_dec, buildA, sizesOf, fillA, putCells, List.take_succ_cons, List.take_zero, List.drop_succ_cons, List.drop_zero, List.nil_append, List.cons_append, List.length_cons, List.length_nil, eqvs_dgs, c1, c2, c3, c4, c5]
set_option maxHeartbeats 8000000 in
theorem k23g (b c b' : Bool) (nx ny nu nv np nq nw nt nr nz : Nat) (lx ly lu lv lp lq lw lt lr lz : List Nat) (c1 : ∀ σ, callI TT 34 [.lst nx (dgs .u32 lx), .lst nv (dgs .u32 lv)] σ = some (.lst np (dgs .u32 lp), σ)) (c2 : ∀ σ, callI TT 34 [.lst nu (dgs .u32 lu), .lst ny (dgs .u32 ly)] σ = some (.lst nq (dgs .u32 lq), σ)) (c3 : ∀ σ, callI TT 34 [.lst ny (dgs .u32 ly), .lst nv (dgs .u32 lv)] σ = some (.lst nw (dgs .u32 lw), σ)) (z : Int) (hbc : b ≠ c) (c6 : ∀ σ, callI TT 36 [.lst np (dgs .u32 lp), .lst nq (dgs .u32 lq)] σ = some (.int .i64 z, σ)) (hz : 0 ≤ z) (M : St → St) (c4 : ∀ σ, callI TT 37 [.lst np (dgs .u32 lp), .lst nq (dgs .u32 lq)] σ = some (.lst nt (dgs .u32 lt), M σ)) (m0 : ∀ h, hget (M ⟨h, 4⟩).h 0 = hget h 0) (m1 : ∀ h, hget (M ⟨h, 4⟩).h 1 = hget h 1) (m2 : ∀ h, hget (M ⟨h, 4⟩).h 2 = hget h 2) (m3 : ∀ h, hget (M ⟨h, 4⟩).h 3 = hget h 3)
    (c5 : ∀ σ, callI TT 32 [.agg [.bool b, .lst nt (dgs .u32 lt), .lst nw (dgs .u32 lw)]] σ = some (.agg [.bool b', .lst nr (dgs .u32 lr), .lst nz (dgs .u32 lz)], σ)) :
    ∃ σ1, exI TT (FI.of Tryd.f23 (TT.an 23)) [.code (Tryd.f23.body.getD .skip)] (paramsE 0 [.agg [.bool b, .lst nx (dgs .u32 lx), .lst ny (dgs .u32 ly)], .agg [.bool c, .lst nu (dgs .u32 lu), .lst nv (dgs .u32 lv)]]) ⟨[], 0⟩ = some (.agg [.bool b', .lst nr (dgs .u32 lr), .lst nz (dgs .u32 lz)], σ1) := by
  refine ex1 ?_
  rw [fi23]
  simp only [Tryd.f23, Option.getD]
  cases b <;> cases c <;> first | exact absurd rfl hbc |
  simp (maxSteps := 1000000) (disch := omega) [cellsAt, getCells, takeN, dropN, fieldAddrA, allOne, AV.one, n_push, storeCellsA, putN, overN, St.push, St.get, St.set, hget, hset, blt_dec, buildA, sizesOf, fillA, putCells, List.take_succ_cons, List.take_zero, List.drop_succ_cons, List.drop_zero, List.nil_append, List.cons_append, List.length_cons, List.length_nil, eqvs_dgs, c1, c2, c3, c4, c5, c6, m0, m1, m2, m3, hget_hset]
set_option maxHeartbeats 8000000 in
theorem k23l (b c b' : Bool) (nx ny nu nv np nq nw nt nr nz : Nat) (lx ly lu lv lp lq lw lt lr lz : List Nat) (c1 : ∀ σ, callI TT 34 [.lst nx (dgs .u32 lx), .lst nv (dgs .u32 lv)] σ = some (.lst np (dgs .u32 lp), σ)) (c2 : ∀ σ, callI TT 34 [.lst nu (dgs .u32 lu), .lst ny (dgs .u32 ly)] σ = some (.lst nq (dgs .u32 lq), σ)) (c3 : ∀ σ, callI TT 34 [.lst ny (dgs .u32 ly), .lst nv (dgs .u32 lv)] σ = some (.lst nw (dgs .u32 lw), σ)) (z : Int) (hbc : b ≠ c) (c6 : ∀ σ, callI TT 36 [.lst np (dgs .u32 lp), .lst nq (dgs .u32 lq)] σ = some (.int .i64 z, σ)) (hz : z < 0) (M : St → St) (c4 : ∀ σ, callI TT 37 [.lst nq (dgs .u32 lq), .lst np (dgs .u32 lp)] σ = some (.lst nt (dgs .u32 lt), M σ)) (m0 : ∀ h, hget (M ⟨h, 4⟩).h 0 = hget h 0) (m1 : ∀ h, hget (M ⟨h, 4⟩).h 1 = hget h 1) (m2 : ∀ h, hget (M ⟨h, 4⟩).h 2 = hget h 2) (m3 : ∀ h, hget (M ⟨h, 4⟩).h 3 = hget h 3)
    (c5 : ∀ σ, callI TT 32 [.agg [.bool c, .lst nt (dgs .u32 lt), .lst nw (dgs .u32 lw)]] σ = some (.agg [.bool b', .lst nr (dgs .u32 lr), .lst nz (dgs .u32 lz)], σ)) :
    ∃ σ1, exI TT (FI.of Tryd.f23 (TT.an 23)) [.code (Tryd.f23.body.getD .skip)] (paramsE 0 [.agg [.bool b, .lst nx (dgs .u32 lx), .lst ny (dgs .u32 ly)], .agg [.bool c, .lst nu (dgs .u32 lu), .lst nv (dgs .u32 lv)]]) ⟨[], 0⟩ = some (.agg [.bool b', .lst nr (dgs .u32 lr), .lst nz (dgs .u32 lz)], σ1) := by
  refine ex1 ?_
  rw [fi23]
  simp only [Tryd.f23, Option.getD]
  cases b <;> cases c <;> first | exact absurd rfl hbc |
  simp (maxSteps := 1000000) (disch := omega) [cellsAt, getCells, takeN, dropN, fieldAddrA, allOne, AV.one, n_push, storeCellsA, putN, overN, St.push, St.get, St.set, hget, hset, blt_dec, buildA, sizesOf, fillA, putCells, List.take_succ_cons, List.take_zero, List.drop_succ_cons, List.drop_zero, List.nil_append, List.cons_append, List.length_cons, List.length_nil, eqvs_dgs, c1, c2, c3, c4, c5, c6, m0, m1, m2, m3, hget_hset]

/-- A fraction of the program. -/
def RT (q : Rat) : AV := .agg [.bool (ng q), NA (nm q), NA q.den]
/-- A bound in bits. -/
def Bd (k : Nat) (q : Rat) : Prop := nm q < 2 ^ k ∧ q.den < 2 ^ k
theorem Bd.mono {a b : Nat} {q : Rat} (h : Bd a q) (hab : a ≤ b) : Bd b q := ⟨Nat.lt_of_lt_of_le h.1 (Nat.pow_le_pow_right (by decide) hab), Nat.lt_of_lt_of_le h.2 (Nat.pow_le_pow_right (by decide) hab)⟩
theorem mul_bd {a b x y : Nat} (hx : x < 2 ^ a) (hy : y < 2 ^ b) : x * y < 2 ^ (a + b) := by
  rw [Nat.pow_add]; exact Nat.mul_lt_mul'' hx hy
theorem low_bd {k : Nat} {b : Bool} {n d : Nat} (hd : d ≠ 0) (h1 : n < 2 ^ k) (h2 : d < 2 ^ k) : Bd k (mkRat (sg b n) d) := by
  obtain ⟨e1, e2, _⟩ := low_num b n d hd
  refine ⟨?_, ?_⟩
  · rw [nm, e1]; exact Nat.lt_of_le_of_lt (Nat.div_le_self _ _) h1
  · rw [e2]; exact Nat.lt_of_le_of_lt (Nat.div_le_self _ _) h2
theorem Bd.mul {a b : Nat} {p q : Rat} (hp : Bd a p) (hq : Bd b q) : Bd (a + b) (p * q) := by
  rw [mul_sg]
  have := p.den_pos
  have := q.den_pos
  exact low_bd (Nat.pos_iff_ne_zero.1 (Nat.mul_pos p.den_pos q.den_pos)) (mul_bd hp.1 hq.1) (mul_bd hp.2 hq.2)
theorem add_sg2 (p q : Rat) : ∃ (b : Bool) (n : Nat), p + q = mkRat (sg b n) (p.den * q.den) ∧ n ≤ nm p * q.den + nm q * p.den := by
  rw [add_sg]
  by_cases h : ng p = ng q
  · rw [h, sg_add_same]; exact ⟨_, _, rfl, Nat.le_refl _⟩
  · by_cases h2 : nm q * p.den ≤ nm p * q.den
    · rw [sg_add_ge h h2]; exact ⟨_, _, rfl, by omega⟩
    · rw [sg_add_lt h (by omega)]; exact ⟨_, _, rfl, by omega⟩
theorem Bd.add {a b : Nat} {p q : Rat} (hp : Bd a p) (hq : Bd b q) : Bd (a + b + 1) (p + q) := by
  obtain ⟨c, n, h1, h2⟩ := add_sg2 p q
  rw [h1]
  have e1 := mul_bd hp.1 hq.2
  have e2 := mul_bd hq.1 hp.2
  rw [Nat.add_comm b a] at e2
  have e3 := mul_bd hp.2 hq.2
  have e4 : 2 ^ (a + b + 1) = 2 * 2 ^ (a + b) := by rw [Nat.pow_succ, Nat.mul_comm]
  exact low_bd (Nat.pos_iff_ne_zero.1 (Nat.mul_pos p.den_pos q.den_pos)) (by omega) (by omega)
theorem Bd.neg {a : Nat} {q : Rat} (h : Bd a q) : Bd a (-q) := ⟨by rw [nm_neg]; exact h.1, h.2⟩
theorem Bd.sub {a b : Nat} {p q : Rat} (hp : Bd a p) (hq : Bd b q) : Bd (a + b + 1) (p - q) := by rw [Rat.sub_eq_add_neg]; exact hp.add hq.neg
theorem Bd.abs {a : Nat} {q : Rat} (h : Bd a q) : Bd a q.abs := by
  obtain ⟨h1, _, h3⟩ := abs_parts q
  exact ⟨by rw [h1]; exact h.1, by rw [h3]; exact h.2⟩
theorem Bd.inv {a : Nat} {q : Rat} (h : Bd a q) (hq : q ≠ 0) : Bd a q⁻¹ := by
  obtain ⟨h1, _, h3⟩ := inv_parts hq
  exact ⟨by rw [h1]; exact h.2, by rw [h3]; exact h.1⟩
theorem fits_bd {q : Rat} (h : fits q = true) : Bd 60 q := by
  obtain ⟨h1, h2⟩ := fits_iff.1 h
  exact ⟨Nat.lt_of_le_of_lt h1 (by decide), Nat.lt_of_le_of_lt h2 (by decide)⟩
theorem len_bd {k n : Nat} (h : n < 2 ^ k) (hk : k ≤ 2000000000) : (dg 4294967296 n).length < 100000000 := by
  have h1 : n < 4294967296 ^ (k / 32 + 1) := by
    have e : (4294967296 : Nat) ^ (k / 32 + 1) = 2 ^ (32 * (k / 32 + 1)) := by rw [Nat.pow_mul]
    rw [e]
    exact Nat.lt_of_lt_of_le h (Nat.pow_le_pow_right (by decide) (by omega))
  have := dg_len_le (B := 4294967296) (by decide) h1
  omega
theorem int_parts (n : Int) : ng (mkRat n 1) = decide (n < 0) ∧ nm (mkRat n 1) = n.natAbs ∧ (mkRat n 1).den = 1 := by
  have h1 : (mkRat n 1).num = n := by rw [Rat.num_mkRat]; simp
  have h2 : (mkRat n 1).den = 1 := by rw [Rat.den_mkRat]; simp
  exact ⟨by rw [ng, h1], by rw [nm, h1], h2⟩
theorem RT_zero : RT 0 = .agg [.bool false, NA 0, NA 1] := rfl
theorem vfr_parts {n d : Int} (h : vfr n d = true) : RT (mkRat n d.toNat) = .agg [.bool (decide (n < 0)), NA n.natAbs, NA d.toNat] := by
  obtain ⟨h1, h2, _⟩ := vfr_rat h
  have h3 : (mkRat n d.toNat).den = d.toNat := by omega
  rw [RT, ng, nm, h1, h3]
theorem ileb_neg (n : Int) : (!ileb 0 n) = decide (n < 0) := ileb_not n 0
/-- A valid fraction. -/
theorem r26 {n d : Int} (h : vfr n d = true) : FnF TT 26 [.agg [.int .i64 n, .int .i64 d]] (RT (mkRat n d.toNat)) := by
  have hh := h
  simp only [vfr, Bool.and_eq_true, decide_eq_true_eq] at hh
  obtain ⟨h1, h2, h3, h4, h5⟩ := hh
  rw [vfr_parts h]
  have hd : d = ((d.toNat : Nat) : Int) := by omega
  exact FnF.mkv fn26 rfl md26 (k26 n d n.natAbs _ _ _ _ _ (ileb_neg n) (fun σ => (v31 n (by omega) (by omega)) σ _ rfl) (fun σ => (v30 n.natAbs (by omega)).pure σ rfl rfl) (fun σ => by
    have := (v30 d.toNat (by omega)).pure σ rfl rfl
    rw [← hd] at this; exact this)) (fun _ => rfl)
theorem vfr_int {n : Int} (h1 : -1000000000000000000 ≤ n) (h2 : n ≤ 1000000000000000000) : vfr n 1 = true := by simp [vfr, h1, h2]
theorem r22 {n : Int} (h1 : -1000000000000000000 ≤ n) (h2 : n ≤ 1000000000000000000) : FnF TT 22 [.int .i64 n] (RT (mkRat n 1)) := by
  have h := vfr_int h1 h2
  have := r26 h
  rw [show ((1 : Int).toNat) = 1 from rfl] at this
  exact FnF.mkv fn22 rfl md22 (k22 n _ _ _ _ _ (fun σ => this.pure σ rfl rfl)) (fun _ => rfl)
theorem r32 (b : Bool) (n d k : Nat) (hd : 0 < d) (h1 : n < 2 ^ k) (h2 : d < 2 ^ k) (hk : k ≤ 2000000000) : FnF TT 32 [.agg [.bool b, NA n, NA d]] (RT (mkRat (sg b n) d)) := by
  rcases Nat.eq_zero_or_pos n with rfl | hn
  · have hz := r22 (n := 0) (by decide) (by decide)
    rw [show mkRat 0 1 = 0 from rfl] at hz
    rw [sg_zero, Rat.zero_mkRat]
    exact FnF.mkv fn32 rfl md32 (k32z b _ _ _ _ [] _ _ _ (fun σ => hz.pure σ rfl rfl)) (fun _ => rfl)
  · obtain ⟨e1, e2, e3⟩ := low_num b n d (by omega)
    have hg : 0 < Nat.gcd n d := Nat.gcd_pos_of_pos_right n hd
    have hgn : Nat.gcd n d ≤ n := Nat.le_of_dvd hn (Nat.gcd_dvd_left n d)
    have hgd : Nat.gcd n d ≤ d := Nat.le_of_dvd hd (Nat.gcd_dvd_right n d)
    have l1 := len_bd h1 hk
    have l2 := len_bd h2 hk
    have e4 : RT (mkRat (sg b n) d) = .agg [.bool b, NA (n / Nat.gcd n d), NA (d / Nat.gcd n d)] := by
      rw [RT, ng, low_neg b n d (by omega) (by omega), nm, e1, e2]
    rw [e4]
    exact FnF.mkv fn32 rfl md32 (k32 b _ _ _ _ _ _ _ _ _ _ _ _ ((dg_len_pos (by decide)).2 hn) (fun σ => (v52 n d l1 l2).pure σ rfl rfl) (fun σ => (v53g n (Nat.gcd n d) hg hgn l1).pure σ rfl rfl) (fun σ => (v53g d (Nat.gcd n d) hg hgd l2).pure σ rfl rfl)) (fun _ => rfl)
theorem sg_int (n : Int) : sg (decide (n < 0)) n.natAbs = n := sg_of n
theorem r17 {n : Int} {d : Nat} (h1 : -1000000000000000000 ≤ n) (h2 : n ≤ 1000000000000000000) (hd : 0 < d) (hd2 : d ≤ 1000000000000000000) : FnF TT 17 [.int .i64 n, .int .i64 d] (RT (mkRat n d)) := by
  have hl := r32 (decide (n < 0)) n.natAbs d 60 hd (Nat.lt_of_le_of_lt (show n.natAbs ≤ 1000000000000000000 by omega) (by decide)) (Nat.lt_of_le_of_lt hd2 (by decide)) (by decide)
  rw [sg_int] at hl
  exact FnF.mkv fn17 rfl md17 (k17 n d n.natAbs _ _ _ _ _ _ _ _ _ _ (ileb_neg n) (fun σ => (v31 n (by omega) (by omega)) σ _ rfl) (fun σ => (v30 n.natAbs (by omega)).pure σ rfl rfl) (fun σ => (v30 d (by omega)).pure σ rfl rfl) (fun σ => hl.pure σ rfl rfl)) (fun _ => rfl)
theorem r56 (q : Rat) : FnF TT 56 [RT q] (RT (-q)) := by
  have e : RT (-q) = .agg [.bool (!ng q && decide ((dg 4294967296 (nm q)).length ≠ 0)), NA (nm q), NA q.den] := by
    rw [RT, ng_neg, nm_neg, Rat.neg_den]
    have : decide (nm q ≠ 0) = decide ((dg 4294967296 (nm q)).length ≠ 0) := by
      by_cases h : nm q = 0
      · simp [h, dg_zero]
      · have : ¬ (dg 4294967296 (nm q)).length = 0 := fun h3 => h ((dg_len_zero (by decide)).1 h3)
        rw [decide_eq_true h, decide_eq_true this]
    rw [this]
  rw [e]
  exact FnF.mkv fn56 rfl md56 (k56 _ _ _ _ _) (fun _ => rfl)
theorem r42 (q : Rat) : FnV TT 42 [RT q] (.bool (decide (q = 0))) := by
  have e : decide (q = 0) = decide ((dg 4294967296 (nm q)).length = 0) := by
    by_cases h : q = 0
    · have h2 := (dg_len_zero (B := 4294967296) (by decide) (n := nm q)).2 (nm_zero.2 h)
      rw [decide_eq_true h, decide_eq_true h2]
    · have h2 : ¬ (dg 4294967296 (nm q)).length = 0 := fun h3 => h (nm_zero.1 ((dg_len_zero (by decide)).1 h3))
      rw [decide_eq_false h, decide_eq_false h2]
  rw [e]
  exact FnV.mk fn42 rfl md42 (k42 _ _ _ _ _) (fun _ => rfl) rfl
theorem r24 {p q : Rat} {k : Nat} (hp : Bd k p) (hq : Bd k q) (hk : k ≤ 1000000000) : FnF TT 24 [RT p, RT q] (RT (p * q)) := by
  have l1 := len_bd hp.1 (by omega)
  have l2 := len_bd hq.1 (by omega)
  have l3 := len_bd hp.2 (by omega)
  have l4 := len_bd hq.2 (by omega)
  have hl := r32 (ng p != ng q) (nm p * nm q) (p.den * q.den) (k + k) (Nat.mul_pos p.den_pos q.den_pos) (mul_bd hp.1 hq.1) (mul_bd hp.2 hq.2) (by omega)
  rw [← mul_sg] at hl
  exact FnF.mkv fn24 rfl md24 (k24 _ _ _ _ _ _ _ _ _ _ _ _ _ _ _ _ _ _ _ (fun σ => (v34 (nm p) (nm q) (by omega) (by omega)).pure σ rfl rfl) (fun σ => (v34 p.den q.den (by omega) (by omega)).pure σ rfl rfl) (fun σ => hl.pure σ rfl rfl)) (fun _ => rfl)
theorem hget_old {M : St → St} (hM : ∀ σ, Old σ (M σ)) (c : Nat) (hc : c < 4) : ∀ h, hget (M ⟨h, 4⟩).h c = hget h c := fun h => (hM ⟨h, 4⟩).2 c hc
theorem r23 {p q : Rat} {k : Nat} (hp : Bd k p) (hq : Bd k q) (hk : k ≤ 900000000) : FnF TT 23 [RT p, RT q] (RT (p + q)) := by
  have l1 := len_bd hp.1 (by omega)
  have l2 := len_bd hq.1 (by omega)
  have l3 := len_bd hp.2 (by omega)
  have l4 := len_bd hq.2 (by omega)
  have b1 := mul_bd hp.1 hq.2
  have b2 := mul_bd hq.1 hp.2
  have b3 := mul_bd hp.2 hq.2
  have hpos := Nat.mul_pos p.den_pos q.den_pos
  have hpow : 2 ^ (k + k + 1) = 2 * 2 ^ (k + k) := by rw [Nat.pow_succ, Nat.mul_comm]
  have L1 := len_bd b1 (by omega)
  have L2 := len_bd b2 (by omega)
  have c1 := fun σ : St => (v34 (nm p) q.den (by omega) (by omega)).pure σ rfl rfl
  have c2 := fun σ : St => (v34 (nm q) p.den (by omega) (by omega)).pure σ rfl rfl
  have c3 := fun σ : St => (v34 p.den q.den (by omega) (by omega)).pure σ rfl rfl
  rw [add_sg]
  by_cases hs : ng p = ng q
  · have hl := r32 (ng p) (nm p * q.den + nm q * p.den) (p.den * q.den) (k + k + 1) hpos (by omega) (by omega) (by omega)
    have e : sg (ng p) (nm p * q.den) + sg (ng q) (nm q * p.den) = sg (ng p) (nm p * q.den + nm q * p.den) := by rw [← hs, sg_add_same]
    rw [e]
    exact FnF.mkv fn23 rfl md23 (k23s _ _ _ _ _ _ _ _ _ _ _ _ _ _ _ _ _ _ _ _ _ _ _ c1 c2 c3 hs (fun σ => (v35 (nm p * q.den) (nm q * p.den) (by omega) (by omega)).pure σ rfl rfl) (fun σ => hl.pure σ rfl rfl)) (fun _ => rfl)
  · obtain ⟨z, hz, hz1, hz2⟩ := v36 (nm p * q.den) (nm q * p.den) (by omega) (by omega)
    have c6 := fun σ : St => hz σ [NA (nm p * q.den), NA (nm q * p.den)] rfl
    by_cases hge : nm q * p.den ≤ nm p * q.den
    · have hl := r32 (ng p) (nm p * q.den - nm q * p.den) (p.den * q.den) (k + k + 1) hpos (by omega) (by omega) (by omega)
      rw [sg_add_ge hs hge]
      obtain ⟨M, hM⟩ := Classical.axiomOfChoice (n37 (nm p * q.den) (nm q * p.den) hge (by omega))
      have hO := fun σ => (hM σ).2
      exact FnF.mkv fn23 rfl md23 (k23g _ _ _ _ _ _ _ _ _ _ _ _ _ _ _ _ _ _ _ _ _ _ _ c1 c2 c3 z hs c6 (by omega) M (fun σ => (hM σ).1) (hget_old hO 0 (by decide)) (hget_old hO 1 (by decide)) (hget_old hO 2 (by decide)) (hget_old hO 3 (by decide)) (fun σ => hl.pure σ rfl rfl)) (fun _ => rfl)
    · have hl := r32 (ng q) (nm q * p.den - nm p * q.den) (p.den * q.den) (k + k + 1) hpos (by omega) (by omega) (by omega)
      rw [sg_add_lt hs (by omega)]
      obtain ⟨M, hM⟩ := Classical.axiomOfChoice (n37 (nm q * p.den) (nm p * q.den) (by omega) (by omega))
      have hO := fun σ => (hM σ).2
      exact FnF.mkv fn23 rfl md23 (k23l _ _ _ _ _ _ _ _ _ _ _ _ _ _ _ _ _ _ _ _ _ _ _ c1 c2 c3 z hs c6 (by omega) M (fun σ => (hM σ).1) (hget_old hO 0 (by decide)) (hget_old hO 1 (by decide)) (hget_old hO 2 (by decide)) (hget_old hO 3 (by decide)) (fun σ => hl.pure σ rfl rfl)) (fun _ => rfl)
theorem r41 {p q : Rat} {k : Nat} (hp : Bd k p) (hq : Bd k q) (hk : k ≤ 900000000) : FnF TT 41 [RT p, RT q] (RT (p - q)) := by
  have h1 := r56 q
  have h2 := r23 hp hq.neg hk
  rw [Rat.sub_eq_add_neg]
  have e : RT (-q) = .agg [.bool (ng (-q)), NA (nm q), NA q.den] := by rw [RT, nm_neg, Rat.neg_den]
  rw [e] at h1 h2
  exact FnF.mkv fn41 rfl md41 (k41 _ _ _ _ _ _ _ _ _ _ _ _ _ _ _ _ (fun σ => h1.pure σ rfl rfl) (fun σ => h2.pure σ rfl rfl)) (fun _ => rfl)
theorem r27 {p q : Rat} {k : Nat} (hp : Bd k p) (hq : Bd k q) (hk : k ≤ 900000000) : FnV TT 27 [RT p, RT q] (.int .i64 (cmpR p q)) := by
  have h1 := r41 hp hq hk
  have h2 := r42 (p - q)
  have e : cmpR p q = if decide (p - q = 0) = true then 0 else if ng (p - q) = true then -1 else 1 := by
    unfold cmpR
    simp only [decide_eq_true_eq]
  rw [e]
  exact FnV.mk fn27 rfl md27 (k27 _ _ _ _ _ _ _ _ _ _ _ _ _ _ _ _ (fun σ => h1.pure σ rfl rfl) (fun σ => h2 σ _ rfl)) (fun _ => rfl) rfl
/-- What is returned of a fraction. -/
def frA (q : Rat) : AV := if fits q = true then .tup [.agg [.int .i64 q.num, .int .i64 q.den], .bool true] else .tup [.agg [.int .i64 0, .int .i64 0], .bool false]
theorem r18 {q : Rat} {k : Nat} (hq : Bd k q) (hk : k ≤ 900000000) : FnV TT 18 [RT q] (frA q) := by
  obtain ⟨z1, h1, e1⟩ := v33 (nm q) (by have := len_bd hq.1 (by omega); omega)
  obtain ⟨z2, h2, e2⟩ := v33 q.den (by have := len_bd hq.2 (by omega); omega)
  have h := k18 (ng q) _ _ _ _ z1 z2 _ _ (fun h => by have := of_decide_eq_true h; have := e1 this; omega) (fun σ => h1 σ _ rfl) (fun σ => h2 σ _ rfl)
  have e : (if (decide (nm q ≤ 1000000000000000000) && decide (q.den ≤ 1000000000000000000)) = true then AV.tup [.agg [.int .i64 (if ng q = true then -z1 else z1), .int .i64 z2], .bool true] else .tup [.agg [.int .i64 0, .int .i64 0], .bool false]) = frA q := by
    unfold frA
    by_cases hf : fits q = true
    · obtain ⟨f1, f2⟩ := fits_iff.1 hf
      rw [if_pos (by simp [f1, f2]), if_pos hf, e1 f1, e2 f2]
      have : (if ng q = true then -((nm q : Nat) : Int) else ((nm q : Nat) : Int)) = q.num := sg_num q
      rw [this]
    · have hn : ¬ (decide (nm q ≤ 1000000000000000000) && decide (q.den ≤ 1000000000000000000)) = true := by
        intro hh
        simp at hh
        exact hf (fits_iff.2 hh)
      rw [if_neg hn, if_neg hf]
  rw [e] at h
  refine FnV.mk fn18 rfl md18 h (fun σ => ?_) ?_
  · unfold frA; split <;> rfl
  · unfold frA; split <;> rfl

end Go.Proofs.YtjecbjnckbihoaaDoor
