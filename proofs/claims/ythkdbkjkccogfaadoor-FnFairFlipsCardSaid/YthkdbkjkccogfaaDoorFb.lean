/- Contracts: small functions, reckoned. Nothing is claimed here; no condition. -/
import Derived.Test.YthkdbkjkccogfaaDoorFa
namespace Go.Proofs.YthkdbkjkccogfaaDoor
open Go Go.Abs
set_option linter.unusedSimpArgs false
set_option linter.unusedVariables false
open Go.Wd
noncomputable def okT (f : Nat) (F : Func) (args : List AV) (v : AV) : Bool := match exec TT 20000 (FI.of F (TT.an f)) [.code (F.body.getD .skip)] (paramsE 0 args) ⟨[], 0⟩ with
  | some (v', _) => v'.eqv v
  | none => false
theorem okT_V {f : Nat} {F : Func} {c : Code} {args : List AV} {v : AV} (hF : TT.fn f = some F) (hB : F.body = some c) (hm : (TT.an f).mode = 1) (hs : ∀ σ1, frzV σ1 frzDepth v = some v) (hv : v.scal = true) (h : okT f F args v = true) : FnV TT f args v := by
  refine FnV.mk hF hB hm ?_ hs hv
  unfold okT at h
  rw [hB] at h
  simp only [Option.getD] at h
  cases hx : exec TT 20000 (FI.of F (TT.an f)) [.code c] (paramsE 0 args) ⟨[], 0⟩ with
  | none => rw [hx] at h; cases h
  | some r =>
    rw [hx] at h
    obtain ⟨v', σ1⟩ := r
    have := eqv_sound _ _ h
    exact ⟨σ1, by rw [exI_iff.2 ⟨20000, hx⟩, this]⟩
def chN : Nat → Nat → Nat
  | _, 0 => 1
  | 0, _ + 1 => 0
  | n + 1, k + 1 => chN n k + chN n (k + 1)
/-- The last bits of a number as a text. -/
def bsOf : Nat → Nat → List UInt8
  | 0, _ => []
  | n + 1, v => (if v / 2 ^ n % 2 = 1 then 49 else 48) :: bsOf n v
def onesN (v : Nat) : Nat := (bsOf 8 v).count 49
def lgI (v : Nat) : Int := if v = 0 then -1 else (Nat.log2 v : Nat)
set_option maxRecDepth 100000 in
theorem tab_ch : ((List.range 9).all fun n => (List.range 9).all fun k => okT 99 Tryd.f99 [.int .i64 (n : Nat), .int .i64 (k : Nat)] (.int .i64 (chN n k : Nat))) = true := by kernel_rfl
set_option maxRecDepth 100000 in
theorem tab_dg : ((List.range 128).all fun n => okT 84 Tryd.f84 [.int .i64 (n : Nat)] (.int .i64 (lgI n))) = true := by kernel_rfl
set_option maxRecDepth 100000 in
theorem tab_bo : ((List.range 7).all fun n => (List.range (2 ^ n)).all fun v => okT 100 Tryd.f100 [.int .i64 (v : Nat), .int .i64 (n : Nat)] (.str (bsOf n v))) = true := by kernel_rfl
set_option maxRecDepth 100000 in
theorem tab_wt : ((List.range 256).all fun v => okT 46 Tryd.f46 [.int .i64 (v : Nat)] (.int .i64 (onesN v : Nat))) = true := by kernel_rfl

set_option maxRecDepth 100000 in
theorem tab_rt7 : ((List.range 8).all fun n => (List.range (2 ^ n)).all fun v => okT 47 Tryd.f47 [.int .i64 (v : Nat), .int .i64 (n : Nat)] (.str (bsOf n v))) = true := by kernel_rfl
set_option maxRecDepth 100000 in
theorem tab_rt8 : ((List.range (2 ^ 8)).all fun v => okT 47 Tryd.f47 [.int .i64 (v : Nat), .int .i64 (8 : Nat)] (.str (bsOf 8 v))) = true := by kernel_rfl
theorem v99 {n k : Nat} (hn : n ≤ 8) (hk : k ≤ 8) : FnV TT 99 [.int .i64 n, .int .i64 k] (.int .i64 (chN n k : Nat)) :=
  okT_V fn99 rfl md99 (fun _ => rfl) rfl (List.all_eq_true.1 (List.all_eq_true.1 tab_ch n (List.mem_range.2 (by omega))) k (List.mem_range.2 (by omega)))
theorem v84 {n : Nat} (hn : n < 128) : FnV TT 84 [.int .i64 n] (.int .i64 (lgI n)) :=
  okT_V fn84 rfl md84 (fun _ => rfl) rfl (List.all_eq_true.1 tab_dg n (List.mem_range.2 hn))
theorem v100 {n v : Nat} (hn : n ≤ 6) (hv : v < 2 ^ n) : FnV TT 100 [.int .i64 v, .int .i64 n] (.str (bsOf n v)) :=
  okT_V fn100 rfl md100 (fun _ => rfl) rfl (List.all_eq_true.1 (List.all_eq_true.1 tab_bo n (List.mem_range.2 (by omega))) v (List.mem_range.2 hv))
theorem v46 {v : Nat} (hv : v < 256) : FnV TT 46 [.int .i64 v] (.int .i64 (onesN v : Nat)) :=
  okT_V fn46 rfl md46 (fun _ => rfl) rfl (List.all_eq_true.1 tab_wt v (List.mem_range.2 hv))
theorem v47 {n v : Nat} (hn : n ≤ 8) (hv : v < 2 ^ n) : FnV TT 47 [.int .i64 v, .int .i64 n] (.str (bsOf n v)) := by
  by_cases h : n = 8
  · subst h
    exact okT_V fn47 rfl md47 (fun _ => rfl) rfl (List.all_eq_true.1 tab_rt8 v (List.mem_range.2 hv))
  · exact okT_V fn47 rfl md47 (fun _ => rfl) rfl (List.all_eq_true.1 (List.all_eq_true.1 tab_rt7 n (List.mem_range.2 (by omega))) v (List.mem_range.2 hv))
theorem chN_le {n k : Nat} (hn : n ≤ 8) (hk : k ≤ 8) : chN n k ≤ 70 := by
  have h : ((List.range 9).all fun n => (List.range 9).all fun k => decide (chN n k ≤ 70)) = true := by decide +kernel
  exact of_decide_eq_true (List.all_eq_true.1 (List.all_eq_true.1 h n (List.mem_range.2 (by omega))) k (List.mem_range.2 (by omega)))
theorem bsOf_length : ∀ n v, (bsOf n v).length = n
  | 0, _ => rfl
  | n + 1, v => by simp [bsOf, bsOf_length n v]
theorem bsOf_bits : ∀ n v, (bsOf n v).all isBit = true
  | 0, _ => rfl
  | n + 1, v => by
    rw [bsOf, List.all_cons, bsOf_bits n v, Bool.and_true]
    split <;> rfl
theorem bsOf_is {n v : Nat} (hn : n ≤ 400) : isBits (bsOf n v) = true := by simp [isBits, bsOf_length, bsOf_bits, hn]

end Go.Proofs.YthkdbkjkccogfaaDoor
