/- What the tables know of UntemperWord. Nothing is claimed here; no condition. -/
import Derived.Test.YthkdbkjkccogfaaXg
import Derived.Test.YthkdbkjkccogfaaGt
import Derived.Test.YthkdbkjkccogfaaAbsLf
namespace Go.Proofs.Ythkdbkjkccogfaa
open Go Go.Abs Go.Wd Go.RowKit
set_option linter.unusedVariables false
set_option linter.unusedSimpArgs false
/-- Rounds that undo one change. -/
def unrd (mv : Nat → Nat) (z : Nat) : Nat → Nat
  | 0 => z
  | k + 1 => xorN z (mv (unrd mv z k))
def undo (mv : Nat → Nat) (z : Nat) : Nat := unrd mv z 16
/-- The word that becomes another. -/
def uw (a b c d e f z : Nat) : Nat := undo (fun y => shrN y a) (undo (fun y => andN (shlN y b) c) (undo (fun y => andN (shlN y d) e) (undo (fun y => shrN y f) z)))
def uwI (a b c d e f z : Int) : Int := if vword a b c d e f z = true then (uw a.toNat b.toNat c.toNat d.toNat e.toNat f.toNat z.toNat : Nat) else 0
theorem uwI_no {a b c d e f y : Int} (h : vword a b c d e f y = false) : uwI a b c d e f y = 0 := by simp [uwI, h]
theorem uwI_yes {a b c d e f y : Nat} (h : vword a b c d e f y = true) : uwI a b c d e f y = (uw a b c d e f y : Nat) := by simp [uwI, h]
theorem shr_16 {y k : Nat} (h : y ≤ 65535) : shrN y k ≤ 65535 := Nat.le_trans (Nat.div_le_self _ _) h
theorem and_16 {y m : Nat} (h : m ≤ 65535) : andN y m ≤ 65535 := Nat.le_trans Nat.and_le_right h
theorem unrd_16 {mv : Nat → Nat} (h : ∀ y, y ≤ 65535 → mv y ≤ 65535) {z : Nat} (hz : z ≤ 65535) : ∀ k, unrd mv z k ≤ 65535
  | 0 => hz
  | k + 1 => xor_16 hz (h _ (unrd_16 h hz k))
theorem undo_16 {mv : Nat → Nat} (h : ∀ y, y ≤ 65535 → mv y ≤ 65535) {z : Nat} (hz : z ≤ 65535) : undo mv z ≤ 65535 := unrd_16 h hz 16
theorem bits_xor {x y : Nat} (hx : x ≤ 65535) (hy : y ≤ 65535) : bits .xor .i64 (x : Int) (y : Int) = ((xorN x y : Nat) : Int) :=
  xor_small .i64 (a := x) (b := y) (by simp only [topOf]; omega) (by simp only [topOf]; omega)
/-- One change, moved down or up. -/
def mdI (y m n : Int) : Int := if m < 0 then (shrN y.toNat (-m).toNat : Nat) else (andN (shlN y.toNat m.toNat) n.toNat : Nat)
theorem mdI_d (y k : Nat) (hk : 1 ≤ k) (n : Int) : mdI y (-(k : Int)) n = (shrN y k : Nat) := by
  unfold mdI
  rw [if_pos (by omega), Int.toNat_natCast, show (-(-(k : Int))).toNat = k by omega]
theorem mdI_u (y k m : Nat) : mdI y k m = (andN (shlN y k) m : Nat) := by
  unfold mdI
  rw [if_neg (by omega), Int.toNat_natCast, Int.toNat_natCast, Int.toNat_natCast]
def csT (a b c d e f : Nat) (j : Nat) : Int := [(-(a : Int)), 65535, (b : Int), (c : Int), (d : Int), (e : Int), (-(f : Int)), 65535].getD j 0
theorem rnd_nat {m : Int × Int} {mv : Nat → Nat} (h : ∀ y : Nat, mdI y m.1 m.2 = (mv y : Nat)) (h2 : ∀ y, y ≤ 65535 → mv y ≤ 65535) {z : Nat} (hz : z ≤ 65535) : ∀ k, Xg.rnd Xg.xr mdI m z k = (unrd mv z k : Nat)
  | 0 => rfl
  | k + 1 => by
    rw [Xg.rnd, rnd_nat h h2 hz k, h, unrd, Xg.xr, bits_xor hz (h2 _ (unrd_16 h2 hz k))]
theorem el_mv {a b c d e f : Nat} (ha : 1 ≤ a) (hc : c ≤ 65535) (he : e ≤ 65535) (hf : 1 ≤ f) (i : Fin 4) : ∃ mv : Nat → Nat, (∀ y : Nat, mdI y (Xg.el (csT a b c d e f) i).2.1 (Xg.el (csT a b c d e f) i).2.2 = (mv y : Nat)) ∧ ∀ y, y ≤ 65535 → mv y ≤ 65535 := by
  match i with
  | 0 => exact ⟨fun y => shrN y f, fun y => mdI_d y f hf _, fun y h => shr_16 h⟩
  | 1 => exact ⟨fun y => andN (shlN y d) e, fun y => mdI_u y d e, fun y h => and_16 he⟩
  | 2 => exact ⟨fun y => andN (shlN y b) c, fun y => mdI_u y b c, fun y h => and_16 hc⟩
  | 3 => exact ⟨fun y => shrN y a, fun y => mdI_d y a ha _, fun y h => shr_16 h⟩
theorem zs_uw {a b c d e f z : Nat} (ha : 1 ≤ a) (hc : c ≤ 65535) (he : e ≤ 65535) (hf : 1 ≤ f) (hz : z ≤ 65535) : Xg.zs Xg.xr mdI (csT a b c d e f) z Xg.revs = (uw a b c d e f z : Nat) := by
  have h1 := undo_16 (mv := fun y => shrN y f) (fun y h => shr_16 h) hz
  have h2 := undo_16 (mv := fun y => andN (shlN y d) e) (fun y h => and_16 he) h1
  have h3 := undo_16 (mv := fun y => andN (shlN y b) c) (fun y h => and_16 hc) h2
  have e1 := rnd_nat (m := (Xg.el (csT a b c d e f) 0).2) (mv := fun y => shrN y f) (fun y => mdI_d y f hf _) (fun y h => shr_16 h) hz 16
  have e2 := rnd_nat (m := (Xg.el (csT a b c d e f) 1).2) (mv := fun y => andN (shlN y d) e) (fun y => mdI_u y d e) (fun y h => and_16 he) h1 16
  have e3 := rnd_nat (m := (Xg.el (csT a b c d e f) 2).2) (mv := fun y => andN (shlN y b) c) (fun y => mdI_u y b c) (fun y h => and_16 hc) h2 16
  have e4 := rnd_nat (m := (Xg.el (csT a b c d e f) 3).2) (mv := fun y => shrN y a) (fun y => mdI_d y a ha _) (fun y h => shr_16 h) h3 16
  simp only [Xg.zs, Xg.revs, List.foldl_cons, List.foldl_nil]
  rw [e1]
  rw [show ((unrd (fun y => shrN y f) z 16 : Nat) : Int) = ((undo (fun y => shrN y f) z : Nat) : Int) from rfl, e2]
  rw [show ∀ x, ((unrd (fun y => andN (shlN y d) e) x 16 : Nat) : Int) = ((undo (fun y => andN (shlN y d) e) x : Nat) : Int) from fun _ => rfl, e3]
  rw [show ∀ x, ((unrd (fun y => andN (shlN y b) c) x 16 : Nat) : Int) = ((undo (fun y => andN (shlN y b) c) x : Nat) : Int) from fun _ => rfl, e4]
  rfl
/-- A contract in the machine. -/
theorem calls_W {f : FuncId} {args : List AV} {v : AV} {us : Array Value} {u : Value} {W : World} (h : FnV TT f args v) (hfz : mapO (frzV ⟨[], 0⟩ frzDepth) args = some args)
    (hv : VRs (fun B => W.heap[B]?) (fun _ => ⟨0, 0, 0⟩) args us.toList) (hsz : us.size = args.length) (hs : Scs 0 args) (hu : ∀ Z φ u', VR Z φ v u' → u' = u) : Calls Try.prog f us W fun q W' => q = .returned u ∧ Below W.heap.size W W' := by
  obtain ⟨n, hn⟩ := callI_some (h ⟨[], 0⟩ args hfz)
  refine Calls.mono ((exec_ok TT_ok n).2 f args ⟨[], 0⟩ _ _ hn _ _ W us (Inv.empty _ (fun _ _ h => h)) hv hsz hs).2 ?_
  rintro e w' ⟨Z', φ', u', rfl, hg⟩
  obtain ⟨h1, _, _, h4⟩ := hg
  refine ⟨by rw [hu _ _ _ h1], h4.os, h4.tape, h4.output, h4.sz, fun k hk => h4.fr k hk ?_⟩
  rintro ⟨b, x, hb, _⟩
  simp [St.get, hget] at hb
theorem VR_int {Z : Fz} {φ : Nat → Pl} {k : IntKind} {n : Int} {u : Value} (h : VR Z φ (.int k n) u) : u = .int k n := by simpa only [VR] using h
theorem cIW (a b c d e f z : Int) (W : World) : Calls Try.prog 21 #[.agg #[.int .i64 a, .int .i64 b, .int .i64 c, .int .i64 d, .int .i64 e, .int .i64 f], .int .i64 z] W fun q W' => q = .returned (.bool (vword a b c d e f z)) ∧ Below W.heap.size W W' :=
  calls_W (v21 a b c d e f z) rfl ⟨⟨_, rfl, rfl, ⟨rfl, rfl, rfl, rfl, rfl, rfl, trivial⟩⟩, rfl, trivial⟩ rfl ⟨⟨trivial, trivial, trivial, trivial, trivial, trivial, trivial⟩, trivial, trivial⟩ (fun Z φ u' h => by simpa only [VR] using h)
theorem cMV (a b c d e f : Nat) (ha : a ≤ 16) (hf : f ≤ 16) (W : World) : Calls Try.prog 22 #[.agg #[.int .i64 a, .int .i64 b, .int .i64 c, .int .i64 d, .int .i64 e, .int .i64 f]] W fun q W' => q = .returned (.agg #[.int .i64 (csT a b c d e f 0), .int .i64 (csT a b c d e f 1), .int .i64 (csT a b c d e f 2), .int .i64 (csT a b c d e f 3), .int .i64 (csT a b c d e f 4), .int .i64 (csT a b c d e f 5), .int .i64 (csT a b c d e f 6), .int .i64 (csT a b c d e f 7)]) ∧ Below W.heap.size W W' :=
  calls_W (v22 a b c d e f ha hf) rfl ⟨⟨_, rfl, rfl, ⟨rfl, rfl, rfl, rfl, rfl, rfl, trivial⟩⟩, trivial⟩ rfl ⟨⟨trivial, trivial, trivial, trivial, trivial, trivial, trivial⟩, trivial⟩ (fun Z φ u' h => by
    simp only [VR, mvs] at h
    obtain ⟨x, rfl, hl, hx⟩ := h
    match x, hl, hx with
    | [x0, x1, x2, x3, x4, x5, x6, x7], _, hx =>
      simp only [VRs, VR, and_true] at hx
      obtain ⟨rfl, rfl, rfl, rfl, rfl, rfl, rfl, rfl⟩ := hx
      rfl)
theorem cMD {a b c d e f : Nat} (ha : 1 ≤ a) (ha2 : a ≤ 16) (hb2 : b ≤ 16) (hc : c ≤ 65535) (hd2 : d ≤ 16) (he : e ≤ 65535) (hf : 1 ≤ f) (hf2 : f ≤ 16) (i : Fin 4) (y : Int) (W : World) (hy : Xg.wok y) :
    Calls Try.prog 24 #[.int .i64 y, .int .i64 (Xg.el (csT a b c d e f) i).2.1, .int .i64 (Xg.el (csT a b c d e f) i).2.2] W fun q W' => q = .returned (.int .i64 (mdI y (Xg.el (csT a b c d e f) i).2.1 (Xg.el (csT a b c d e f) i).2.2)) ∧ Below W.heap.size W W' := by
  obtain ⟨n, rfl⟩ : ∃ n : Nat, y = n := ⟨y.toNat, by have := hy.1; omega⟩
  have hn : n ≤ 65535 := by have := hy.2; omega
  match i with
  | 0 =>
    rw [show mdI n (Xg.el (csT a b c d e f) 0).2.1 (Xg.el (csT a b c d e f) 0).2.2 = (shrN n f : Nat) from mdI_d n f hf _]
    exact calls_W (v24d n f hn hf2 hf) rfl ⟨rfl, rfl, rfl, trivial⟩ rfl ⟨trivial, trivial, trivial, trivial⟩ (fun Z φ u' h => VR_int h)
  | 1 =>
    rw [show mdI n (Xg.el (csT a b c d e f) 1).2.1 (Xg.el (csT a b c d e f) 1).2.2 = (andN (shlN n d) e : Nat) from mdI_u n d e]
    exact calls_W (v24u n d e hn hd2 he) rfl ⟨rfl, rfl, rfl, trivial⟩ rfl ⟨trivial, trivial, trivial, trivial⟩ (fun Z φ u' h => VR_int h)
  | 2 =>
    rw [show mdI n (Xg.el (csT a b c d e f) 2).2.1 (Xg.el (csT a b c d e f) 2).2.2 = (andN (shlN n b) c : Nat) from mdI_u n b c]
    exact calls_W (v24u n b c hn hb2 hc) rfl ⟨rfl, rfl, rfl, trivial⟩ rfl ⟨trivial, trivial, trivial, trivial⟩ (fun Z φ u' h => VR_int h)
  | 3 =>
    rw [show mdI n (Xg.el (csT a b c d e f) 3).2.1 (Xg.el (csT a b c d e f) 3).2.2 = (shrN n a : Nat) from mdI_d n a ha _]
    exact calls_W (v24d n a hn ha2 ha) rfl ⟨rfl, rfl, rfl, trivial⟩ rfl ⟨trivial, trivial, trivial, trivial⟩ (fun Z φ u' h => VR_int h)
/-- What UntemperWord does. -/
theorem unt_all (a b c d e f z : Int) (w : World) : Calls Try.prog 8 #[.agg #[.int .i64 a, .int .i64 b, .int .i64 c, .int .i64 d, .int .i64 e, .int .i64 f], .int .i64 z] w fun q w' => q = .returned (.tuple #[.int .i64 (uwI a b c d e f z), .bool (vword a b c d e f z)]) ∧ Below w.heap.size w w' := by
  refine (callsIn_wide (n := 5)).1 ?_
  cases hv : vword a b c d e f z with
  | false =>
    rw [uwI_no hv]
    exact Xg.unt0 a b c d e f z w (fun W => by have := cIW a b c d e f z W; rwa [hv] at this)
  | true =>
    have hv' := hv
    obtain ⟨a, b, c, d, e, f, z, rfl, rfl, rfl, rfl, rfl, rfl, rfl, a1, a2, b1, b2, c2, d1, d2, e2, f1, f2, z2⟩ := word_nat hv
    rw [uwI_yes hv', ← zs_uw (a := a) (b := b) (d := d) a1 c2 e2 f1 z2]
    exact Xg.unt a b c d e f z (csT a b c d e f) mdI w (fun W => by have := cIW a b c d e f z W; rwa [hv'] at this) (cMV a b c d e f a2 f2) (cMD a1 a2 b2 c2 d2 e2 f1 f2) (fun i y x hy hx => by
      obtain ⟨y, rfl⟩ : ∃ n : Nat, y = n := ⟨y.toNat, by have := hy.1; omega⟩
      obtain ⟨x, rfl⟩ : ∃ n : Nat, x = n := ⟨x.toNat, by have := hx.1; omega⟩
      obtain ⟨mv, h1, h2⟩ := el_mv (a := a) (b := b) (c := c) (d := d) (e := e) (f := f) a1 c2 e2 f1 i
      have h3 := h2 y (by have := hy.2; omega)
      have hx2 : x ≤ 65535 := by have := hx.2; omega
      rw [h1, Xg.xr, bits_xor hx2 h3]
      have := xor_16 hx2 h3
      exact ⟨by omega, by omega⟩) ⟨by omega, by omega⟩
def extX (f : FuncId) (args : List AV) (σ : St) : Option (AV × St) :=
  if f = 8 then match args with
    | [.agg [.int .i64 a, .int .i64 b, .int .i64 c, .int .i64 d, .int .i64 e, .int .i64 f], .int .i64 z] => some (.tup [.int .i64 (uwI a b c d e f z), .bool (vword a b c d e f z)], σ)
    | _ => none
  else extB f args σ
section
variable {Z : Fz} {φ : Nat → Pl} {σ : St} {w w' : World}
theorem inv_below (hI : Inv Z φ σ w) (hb : Below w.heap.size w w') : Inv Z φ σ w' := hI.world fun B hB => hb.block B (hB.elim hI.z_lt hI.fp_lt)
theorem ext_below (hI : Inv Z φ σ w) (hb : Below w.heap.size w w') : Ext Z φ σ w Z φ σ w' :=
  ⟨fun _ _ h => h, fun _ h => .inl h, fun _ _ => rfl, Nat.le_refl _, hb.size, fun B hB _ => hb.block B hB, fun _ h => .inr h, hb.os, hb.tape, hb.output⟩
end
theorem extX_ok : CallOK Try.prog extX := by
  intro f args σ v σ' h Z φ w us hI hV hsz hS
  unfold extX at h
  split at h
  · rename_i hf
    subst hf
    split at h
    · rename_i a b c d e f z
      cases h
      obtain ⟨u0, u1, hus⟩ : ∃ u0 u1, us.toList = [u0, u1] := by
        have hlen2 : us.toList.length = 2 := by rw [Array.length_toList]; exact hsz
        match us.toList, hlen2 with
        | [a, b], _ => exact ⟨a, b, rfl⟩
      rw [hus] at hV
      obtain ⟨v0, v1, _⟩ := hV
      simp only [VR] at v0 v1
      obtain ⟨x, rfl, hl, hx⟩ := v0
      subst v1
      match x, hl, hx with
      | [x0, x1, x2, x3, x4, x5], _, hx =>
        simp only [VRs, VR, and_true] at hx
        obtain ⟨rfl, rfl, rfl, rfl, rfl, rfl⟩ := hx
        have hus2 : us = #[.agg #[.int .i64 a, .int .i64 b, .int .i64 c, .int .i64 d, .int .i64 e, .int .i64 f], .int .i64 z] := by
          apply Array.ext'; rw [hus]
        rw [hus2]
        refine ⟨Go.Proofs.enters_of Try.func8 (by kernel_rfl) rfl _ _, (unt_all a b c d e f z w).mono ?_⟩
        rintro q w' ⟨rfl, hb⟩
        exact ⟨Z, φ, _, rfl, ⟨_, rfl, rfl, ⟨rfl, rfl, trivial⟩⟩, ⟨trivial, trivial, trivial⟩, inv_below hI hb, ext_below hI hb⟩
    · cases h
  · exact extB_ok f args σ v σ' h Z φ w us hI hV hsz hS
noncomputable def TX : Tab := tabOf tyT fnT anT extX
set_option maxRecDepth 100000 in
theorem tx_code : (fnT.all fun f F => match F.body with | some c => codeChk (tabOf tyT fnT anT extX) (FI.of F ((tabOf tyT fnT anT extX).an f)) c | none => true) = true := by kernel_rfl
theorem TX_ok : TabOK Try.prog TX := tab_ok (by kernel_rfl) tt_ty tt_fn tt_en tx_code extX_ok
theorem extX_more : LeC TT.ext extX := by
  intro f args σ r h
  have h : extB f args σ = some r := h
  unfold extX
  split
  · rename_i hf
    subst hf
    simp [extB] at h
  · exact h
theorem more {f : FuncId} {args : List AV} {σ : St} {r : AV × St} (h : callI TT f args σ = some r) : callI TX f args σ = some r := callI_more extX_more f args σ r h
theorem cUW (a b c d e f z : Int) (σ : St) : callI TX 8 [.agg (tem a b c d e f), .int .i64 z] σ = some (.tup [.int .i64 (uwI a b c d e f z), .bool (vword a b c d e f z)], σ) := by
  have h8 : TX.fn 8 = none := by kernel_rfl
  unfold callI callA
  rw [h8]
  rfl
end Go.Proofs.Ythkdbkjkccogfaa
