/- Steps of the interpreter without a bound, as equations. Nothing is claimed here; no condition. -/
import Derived.Test.YtjecbjnckbihoaaDoorAbsV
namespace Go.Abs
open Go

variable {T : Tab} {fi : FI} {k : List It} {env : Env} {σ : St}

theorem xI_nil : exI T fi [] env σ = finA T fi env σ := by rw [exI_eq]; rfl
theorem xI_blk {i : Nat} : exI T fi (.blk i :: k) env σ = exI T fi k env σ := by rw [exI_eq]; rfl
theorem xI_lp {c : Code} : exI T fi (.lp c :: k) env σ = exI T fi (.code c :: .lp c :: k) env σ := by rw [exI_eq]; rfl
theorem xI_skip : exI T fi (.code .skip :: k) env σ = exI T fi k env σ := by rw [exI_eq]; rfl
theorem xI_seq {a b : Code} : exI T fi (.code (.seq a b) :: k) env σ = exI T fi (.code a :: .code b :: k) env σ := by rw [exI_eq]; rfl
theorem xI_region {id : Nat} {ops : Array Oper} {d : Bool} : exI T fi (.code (.region id ops d) :: k) env σ = match regA T (callI T) fi id ops d env σ with
    | some (env', σ') => exI T fi k env' σ'
    | none => none := by rw [exI_eq]; rfl
theorem xI_reg {id : Nat} {ops : Array Oper} {d : Bool} {env' : Env} {σ' : St} (h : regA T (callI T) fi id ops d env σ = some (env', σ')) : exI T fi (.code (.region id ops d) :: k) env σ = exI T fi k env' σ' := by
  rw [xI_region, h]
theorem xI_cond {x : Operand} {a b : Code} {t : Bool} (h : evo env x = some (.bool t)) : exI T fi (.code (.cond x a b) :: k) env σ = if t = true then exI T fi (.code a :: k) env σ else exI T fi (.code b :: k) env σ := by
  rw [exI_eq]; unfold execStep; simp only [h]
theorem xI_true {x : Operand} {a b : Code} (h : evo env x = some (.bool true)) : exI T fi (.code (.cond x a b) :: k) env σ = exI T fi (.code a :: k) env σ := by
  rw [xI_cond h, if_pos rfl]
theorem xI_false {x : Operand} {a b : Code} (h : evo env x = some (.bool false)) : exI T fi (.code (.cond x a b) :: k) env σ = exI T fi (.code b :: k) env σ := by
  rw [xI_cond h, if_neg (by simp)]
theorem xI_block {id : Nat} {a : Code} : exI T fi (.code (.block id a) :: k) env σ = exI T fi (.code a :: .blk id :: k) env σ := by rw [exI_eq]; rfl
theorem xI_loop {a : Code} : exI T fi (.code (.loop a) :: k) env σ = exI T fi (.code a :: .lp a :: k) env σ := by rw [exI_eq]; rfl
theorem xI_exit {id : Nat} {k' : List It} (h : exitA id k = some k') : exI T fi (.code (.exit id) :: k) env σ = exI T fi k' env σ := by
  rw [exI_eq]; unfold execStep; simp only [h]
theorem xI_ret : exI T fi (.code .ret :: k) env σ = finA T fi env σ := by rw [exI_eq]; rfl

theorem xI_exitM {T : Tab} {fi : FI} {k : List It} {env : Env} {σ : St} {id : Nat} : exI T fi (.code (.exit id) :: k) env σ = match exitA id k with
    | some k' => exI T fi k' env σ
    | none => none := by rw [exI_eq]; rfl
theorem xI_condM {T : Tab} {fi : FI} {k : List It} {env : Env} {σ : St} {x : Operand} {a b : Code} : exI T fi (.code (.cond x a b) :: k) env σ = match evo env x with
    | some (.bool t) => if t = true then exI T fi (.code a :: k) env σ else exI T fi (.code b :: k) env σ
    | _ => none := by rw [exI_eq]; rfl
theorem inB_cast (n len : Nat) : inB (n : Int) len = decide (n < len) := by
  rw [inB_eq]; by_cases h : n < len <;> simp [h]
theorem ileb_cast (a b : Nat) : ileb (a : Int) (b : Int) = decide (a ≤ b) := by
  rw [ileb_eq]; by_cases h : a ≤ b <;> simp [h]
theorem wrap_succ (n : Nat) (h : n < 1000000) : wrapA .i64 ((n : Int) + 1) = (n : Int) + 1 := by
  rw [wrapA_eq]; simp [IntKind.wrap, IntKind.bits, IntKind.signed]; omega
theorem xI_loopH {T : Tab} {fi : FI} {k : List It} {env : Env} {σ : St} {a : Code} : exI T fi (.code (.loop a) :: k) env σ = exI T fi (.lp a :: k) env σ := by rw [xI_loop, xI_lp]

def fstC : Code → Code
  | .seq a _ => a
  | c => c
def sndC : Code → Code
  | .seq _ b => b
  | c => c
def bodyC : Code → Code
  | .block _ a => a
  | .loop a => a
  | c => c
def ints (l : List Int) : List AV := l.map (.int .i64)
theorem getCells_at (pre suf : List Int) (n : Int) : getCells (ints (pre ++ n :: suf)) pre.length 1 = some [.int .i64 n] := by
  rw [getCells_eq]
  simp [ints]
theorem frz_ints (σ : St) (d : Nat) (l : List Int) : mapO (frzV σ (d + 1)) (ints l) = some (ints l) := by
  induction l with
  | nil => rfl
  | cons a r ih => simp only [ints, List.map_cons, mapO] at ih ⊢; rw [ih]; rfl

/-- A call in the caller's heap. -/
theorem cI_0 {f : FuncId} {args : List AV} {F : Func} {c : Code} (hF : T.fn f = some F) (hB : F.body = some c) (hm : (T.an f).mode = 0) : callI T f args σ = exI T (FI.of F (T.an f)) [.code c] (paramsE 0 args) σ := by
  unfold callI callA
  rw [hF]; simp only [hB, hm, if_true]

/-- A call in a heap of its own. -/
theorem cI_1 {f : FuncId} {args args' : List AV} {F : Func} {c : Code} {v : AV} {σ1 : St} {r : AV × St} (hF : T.fn f = some F) (hB : F.body = some c) (hm : (T.an f).mode = 1) (ha : mapO (frzV σ frzDepth) args = some args')
    (hx : exI T (FI.of F (T.an f)) [.code c] (paramsE 0 args') ⟨[], 0⟩ = some (v, σ1)) (hr : frzR σ1 σ (args.flatMap (rowsV σ frzDepth)) v = some r) : callI T f args σ = some r := by
  unfold callI callA
  rw [hF]; simp only [hB, hm, ha, hx]
  rw [if_neg (by decide), if_pos trivial]; exact hr

theorem cI_2 {f : FuncId} {args args' : List AV} {F : Func} {c : Code} {v : AV} {σ1 : St} {r : AV × St} (hF : T.fn f = some F) (hB : F.body = some c) (hm : (T.an f).mode = 2) (ha : mapO (frzV σ frzDepth) args = some args')
    (hx : exI T (FI.of F (T.an f)) [.code c] (paramsE 0 args') ⟨[], 0⟩ = some (v, σ1)) (hr : ownR σ1 σ v = some r) : callI T f args σ = some r := by
  unfold callI callA
  rw [hF]; simp only [hB, hm, ha, hx]
  rw [if_neg (by decide), if_neg (by decide)]; exact hr

/-- What the interpreter without a bound finds is what the calls do. -/
theorem calls_true_I {P : Program} {T : Tab} {Z : Fz} {φ : Nat → Pl} {σ' : St} (hT : TabOK P T) {f : FuncId} {args : List AV} (hx : callI T f args ⟨[], 0⟩ = some (.bool true, σ')) {us : Array Value} {W : World} (hZ : ∀ B o, Z B = some o → W.heap[B]? = some o)
    (hv : VRs Z φ args us.toList) (hsz : us.size = args.length) (hs : Scs 0 args) : Calls P f us W fun e w' => e = .returned (.bool true) ∧ RowKit.Below W.heap.size W w' := by
  obtain ⟨n, hn⟩ := callI_some hx
  exact calls_true hT hn hZ hv hsz hs

/-- The faster one's outcome. -/
theorem callI_of_f {T TF : Tab} (h : LeC (callI TF) (callI T)) (hk : ∀ f, (TF.an f).keep = []) {n : Nat} {f : FuncId} {args : List AV} {r : AV × St} (hx : fcall TF (fexec TF n) f args σ = some r) : callI T f args σ = some r :=
  h _ _ _ _ (callA_mono (exec_le_exI n) _ _ _ _ (fcall_exec hk hx))

end Go.Abs
