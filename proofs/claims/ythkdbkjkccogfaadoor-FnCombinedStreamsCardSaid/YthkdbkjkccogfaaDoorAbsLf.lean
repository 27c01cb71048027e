/- Tables that know more of functions from outside. Nothing is claimed here; no condition. -/
import Derived.Test.YthkdbkjkccogfaaDoorAbsZ
namespace Go.Abs
open Go
variable (T : Tab) (e : FuncId → List AV → St → Option (AV × St))
theorem sizesOf_ext : @sizesOf { T with ext := e } = @sizesOf T := by
  funext l
  induction l with
  | nil => rfl
  | cons x r ih => obtain ⟨a, b⟩ := x; simp only [sizesOf, ih]
theorem buildA_ext : @buildA { T with ext := e } = @buildA T := by
  funext t ps
  simp only [buildA, sizesOf_ext]
theorem eqFs_ext : @eqFs { T with ext := e } = @eqFs T := by
  funext l
  induction l with
  | nil => rfl
  | cons x r ih => funext xs ys; obtain ⟨a, b⟩ := x; simp only [eqFs, ih]
theorem binA_ext : @binA { T with ext := e } = @binA T := by
  funext op t x y
  simp only [binA, eqStr, eqFs_ext]
theorem opA_ext : @opA { T with ext := e } = @opA T := by
  funext env σ op
  cases op <;> simp only [opA, buildA_ext, binA_ext] <;> rfl
theorem opStep_ext : @opStep { T with ext := e } = @opStep T := by
  funext call nt all o env σ
  simp only [opStep, opA_ext]
theorem finA_ext : @resA { T with ext := e } = @resA T := by
  funext env σ l
  induction l with
  | nil => rfl
  | cons x r ih => cases x <;> simp only [resA, ih] <;> rfl
theorem runOps_ext : @runOps { T with ext := e } = @runOps T := by
  funext call nt all l env σ
  induction l generalizing env σ with
  | nil => rfl
  | cons x r ih => simp only [runOps, opStep_ext, ih]
theorem runTr_ext : @runTr { T with ext := e } = @runTr T := by
  funext call nt all l env σ
  induction l generalizing env σ with
  | nil => rfl
  | cons x r ih => simp only [runTr, opStep_ext, ih]
theorem freshOp_ext : @freshOp { T with ext := e } = @freshOp T := rfl
theorem runTrF_ext : @runTrF { T with ext := e } = @runTrF T := by
  funext call nt all tw i l env σ
  induction l generalizing i env σ with
  | nil => rfl
  | cons x r ih => simp only [runTrF, opStep_ext, freshOp_ext, ih]
theorem selF_ext : @selF { T with ext := e } = @selF T := by
  funext tw i l
  induction l generalizing i with
  | nil => rfl
  | cons x r ih => simp only [selF, freshOp_ext, ih]
theorem runTr2_ext : @runTr2 { T with ext := e } = @runTr2 T := by
  funext call nt all tw i l env σ
  induction l generalizing i env σ with
  | nil => rfl
  | cons x r ih => simp only [runTr2, opStep_ext, ih]
theorem pairOk_ext : @pairOk { T with ext := e } = @pairOk T := by
  funext ops tr i j
  simp only [pairOk, opA_ext]
theorem pairsOk_ext : @pairsOk { T with ext := e } = @pairsOk T := by
  funext ops tr l
  induction l with
  | nil => rfl
  | cons x r ih => obtain ⟨a, b⟩ := x; simp only [pairsOk, pairOk_ext, ih]
theorem regF_ext : @regF { T with ext := e } = @regF T := by
  funext call nt ops env σ tw ps
  simp only [regF, runTrF_ext, pairsOk_ext, selF_ext, runOps_ext, runTr2_ext]
theorem regOps_ext : @regOps { T with ext := e } = @regOps T := by
  funext call nt ops env σ l
  cases l <;> simp only [regOps, runOps_ext, runTr_ext, pairsOk_ext, regF_ext]
theorem regA_ext : @regA { T with ext := e } = @regA T := by
  funext call fi id ops d env σ
  simp only [regA, regOps_ext]
theorem fin_ext : @finA { T with ext := e } = @finA T := by
  funext fi env σ
  simp only [finA, finA_ext]
variable {T e}
theorem callA_ext (h : LeC T.ext e) (a : ExT) : LeC (callA T a) (callA { T with ext := e } a) := by
  intro f args σ r hs
  unfold callA at hs ⊢
  cases hF : T.fn f with
  | none => rw [hF] at hs; exact h _ _ _ _ hs
  | some F => rw [hF] at hs; exact hs
theorem step_ext (h : LeC T.ext e) (a : ExT) : LeX (execStep T a) (execStep { T with ext := e } a) := by
  intro fi its env σ r hs
  unfold execStep at hs ⊢
  simp only [regA_ext, fin_ext] at hs ⊢
  cases its with
  | nil => exact hs
  | cons i k =>
    cases i with
    | blk _ => exact hs
    | lp _ => exact hs
    | code c =>
      cases c <;> first | exact hs | skip
      rename_i id ops d
      simp only [] at hs ⊢
      cases hr : regA T (callA T a) fi id ops d env σ with
      | none => rw [hr] at hs; cases hs
      | some y =>
        rw [hr] at hs
        rw [regA_mono (callA_ext h a) hr]
        exact hs
theorem exec_ext (h : LeC T.ext e) : ∀ n, LeX (exec T n) (exec { T with ext := e } n)
  | 0 => fun _ _ _ _ _ hs => by cases hs
  | n + 1 => fun fi its env σ r hs => by
    rw [exec_succ] at hs ⊢
    exact step_ext h _ _ _ _ _ _ (execStep_mono (exec_ext h n) _ _ _ _ _ hs)
/-- What is found with less known of functions from outside is found with more. -/
theorem callI_more (h : LeC T.ext e) : LeC (callI T) (callI { T with ext := e }) := by
  intro f args σ r hs
  obtain ⟨n, hn⟩ := callI_some hs
  have h1 := callA_mono (exec_ext h n) f args σ r hn
  have h2 : callA { T with ext := e } (exec { T with ext := e } n) f args σ = some r := callA_ext h _ f args σ r h1
  exact callA_mono (exec_le_exI n) f args σ r h2
end Go.Abs
