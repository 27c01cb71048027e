/- The interpreter holds of the model. Nothing is claimed here; no condition. -/
import Derived.Test.YtjecbjnckbihoaaDoorAbsL
namespace Go.Abs
open Go

variable {P : Program} {T : Tab} {Z Zc : Fz} {φ : Nat → Pl} {σ σ' : St} {w w' : World}

/-- A region's outcome, whatever order the model draws. -/
def RegOK (P : Program) (T : Tab) (fi : FI) (id : Nat) (ops : Array Oper) (draw : Bool) : Prop :=
  ∀ (call : FuncId → List AV → St → Option (AV × St)), CallOK P call → ∀ env σ env' σ' Z φ (a : Act) w, regA T call fi id ops draw env σ = some (env', σ') → ER Z φ σ.n env a.tmps → fi.nt ≤ a.tmps.size → Inv Z φ σ w →
    (Code.region id ops draw).wp P (RegQ Z φ σ w a env' σ') a w

/-- All regions of a text. -/
def CodeOK (P : Program) (T : Tab) (fi : FI) : Code → Prop
  | .region id ops d => RegOK P T fi id ops d
  | .seq a b => CodeOK P T fi a ∧ CodeOK P T fi b
  | .cond _ a b => CodeOK P T fi a ∧ CodeOK P T fi b
  | .block _ a => CodeOK P T fi a
  | .loop a => CodeOK P T fi a
  | _ => True

structure TabOK (P : Program) (T : Tab) : Prop where
  ty : TyT P T
  fn : ∀ f F, T.fn f = some F → P.funcs[f]? = some F
  call : ∀ f F, T.fn f = some F → ∀ us w, (callFunc f us).run P w = .ok (.enter f us) w
  code : ∀ f F c, T.fn f = some F → F.body = some c → CodeOK P T (FI.of F (T.an f)) c
  ext : CallOK P T.ext

theorem ER_restrict {n : Nat} {env : Env} {tmps : Array Value} (h : ER Z φ n env tmps) (l : List Nat) : ER Z φ n (restrict l env) tmps := fun t v ht => h t v (lk_restrict l t v ht)

theorem ER_keep {n : Nat} {env : Env} {tmps : Array Value} (h : ER Z φ n env tmps) (id : Nat) : ∀ l, ER Z φ n (keepE l id env) tmps
  | [] => h
  | (i, l) :: r => by
    simp only [keepE, nif_eq]
    split
    · exact ER_restrict h l
    · exact ER_keep h id r

theorem RegQ.restrict {a : Act} {env' : Env} (l : List (Nat × List Nat)) (id : Nat) (e : Exit) (b : Act) (v : World) (h : RegQ Z φ σ w a env' σ' e b v) : RegQ Z φ σ w a (keepE l id env') (gcE l id (keepE l id env') σ') e b v := by
  obtain ⟨h1, Z2, φ2, h2, h3, h4, h5, h6⟩ := h
  obtain ⟨k, hk | hk⟩ := gcE_ok (env := keepE l id env') l id σ'
  · rw [hk]; exact ⟨h1, Z2, φ2, ER_keep h2 id l, h3, h4, h5, h6⟩
  · rw [hk]; exact ⟨h1, Z2, φ2, ER_keep h2 id l, h3, h4, h5.keepB k, h6.trans (keepB_ext k)⟩

/-- A region that does not draw. -/
theorem regOK_plain (hT : TyT P T) {fi : FI} {id : Nat} {ops : Array Oper} : RegOK P T fi id ops false := by
  intro call hC env σ env' σ' Z φ a w h hE hn hI
  unfold regA at h
  simp only [regOps] at h
  split at h
  case h_2 => cases h
  rename_i e1 σ1 h1
  cases h
  refine wp_region_list ?_
  exact wpList_mono (RegQ.restrict _ _) _ _ _ (runOps_ok hT hC ops.toList env σ e1 σ1 Z φ a w h1 hE hn hI)

def itC : It → Item
  | .code c => .code c
  | .blk id => .inBlock id
  | .lp c => .inLoop c

def ItOK (P : Program) (T : Tab) (fi : FI) : It → Prop
  | .code c => CodeOK P T fi c
  | .blk _ => True
  | .lp c => CodeOK P T fi c

theorem exitA_ok {id : Nat} : ∀ (k k' : List It), exitA id k = some k' → exitTo id (k.map itC) = some (k'.map itC) ∧ ∀ x, x ∈ k' → x ∈ k
  | [], k', h => by simp [exitA] at h
  | .blk i :: k, k', h => by
    simp only [exitA, nif_eq] at h
    split at h
    · rename_i hi
      cases h
      exact ⟨by simp [itC, exitTo, hi], fun x hx => by simp [hx]⟩
    · rename_i hi
      obtain ⟨h1, h2⟩ := exitA_ok k k' h
      refine ⟨?_, fun x hx => by simp [h2 x hx]⟩
      simp only [List.map_cons, itC, exitTo]
      rw [if_neg (by simpa using hi)]
      exact h1
  | .code c :: k, k', h => by
    simp only [exitA] at h
    obtain ⟨h1, h2⟩ := exitA_ok k k' h
    exact ⟨by simpa [itC, exitTo] using h1, fun x hx => by simp [h2 x hx]⟩
  | .lp c :: k, k', h => by
    simp only [exitA] at h
    obtain ⟨h1, h2⟩ := exitA_ok k k' h
    exact ⟨by simpa [itC, exitTo] using h1, fun x hx => by simp [h2 x hx]⟩

theorem loadVar_ok (hT : TyT P T) (hI : Inv Z φ σ w) {t : TypeId} {a v : AV} {ua : Value} (h : loadA T σ t a = some v) (ha : VR Z φ a ua) (hs : Sc σ.n a) :
    ∃ ad u, ua = .pointer (some ad) ∧ (loadVar t ad).run P w = .ok u w ∧ VR Z φ v u ∧ Sc σ.n v := by
  obtain ⟨u, h1, h2, h3⟩ := load_ok (P := P) hT hI h ha hs
  have hp : ∃ ad, ua = .pointer (some ad) := by
    unfold loadA at h
    split at h
    case h_2 => cases h
    split at h
    case h_2 => cases h
    rename_i cs hc
    obtain ⟨B, o, c, e, fz, rfl, _⟩ := cellsAt_spec hI hc ha hs
    exact ⟨_, rfl⟩
  obtain ⟨ad, rfl⟩ := hp
  exact ⟨ad, u, rfl, by simpa [Instr.loadAt, Instr.sureAddr] using h1, h2, h3⟩

theorem res_ok (hT : TyT P T) (hI : Inv Z φ σ w) {env : Env} {tmps : Array Value} (hE : ER Z φ σ.n env tmps) : ∀ (rs : List ResultVar) (l : List AV), resA T env σ rs = some l →
    ∃ us : List Value, (rs.mapM fun | .tmp t => pure (tmps.getD t undef) | .cell a t => do loadVar t (← asAddr (tmps.getD a undef)) : Sem (List Value)).run P w = .ok us w ∧ us.length = l.length ∧ VRs Z φ l us ∧ Scs σ.n l
  | [], l, h => by simp [resA] at h; subst h; exact ⟨[], by simp, rfl, trivial, trivial⟩
  | .tmp t :: r, l, h => by
    simp only [resA] at h
    split at h
    case h_2 => cases h
    rename_i v l' h1 h2
    cases h
    obtain ⟨u, g1, g2, g3⟩ := hE t v h1
    obtain ⟨us, k1, k2, k3, k4⟩ := res_ok hT hI hE r l' h2
    refine ⟨u :: us, ?_, by simp [k2], ⟨g2, k3⟩, ⟨g3, k4⟩⟩
    have : tmps.getD t undef = u := by simp [g1]
    simp only [List.mapM_cons, Sem.run_bind, Sem.run_pure, Result.andThen_ok, k1, this]
  | .cell a t :: r, l, h => by
    simp only [resA] at h
    split at h
    case h_2 => cases h
    rename_i p hp
    split at h
    case h_2 => cases h
    rename_i v l' h1 h2
    cases h
    obtain ⟨ua, g1, g2, g3⟩ := hE a p hp
    obtain ⟨ad, u, rfl, hl, hv, hs⟩ := loadVar_ok (P := P) hT hI h1 g2 g3
    obtain ⟨us, k1, k2, k3, k4⟩ := res_ok hT hI hE r l' h2
    refine ⟨u :: us, ?_, by simp [k2], ⟨hv, k3⟩, ⟨hs, k4⟩⟩
    have : tmps.getD a undef = .pointer (some ad) := by simp [g1]
    have hasA : (asAddr (tmps.getD a undef)).run P w = .ok ad w := by rw [this]; rfl
    simp only [List.mapM_cons, Sem.run_bind, hasA, Sem.run_pure, Result.andThen_ok, hl, k1]

theorem fin_ok (hT : TyT P T) (hI : Inv Z φ σ w) {fi : FI} {F : Func} (hF : fi.res = F.results.toList) {env : Env} {tmps : Array Value} (hE : ER Z φ σ.n env tmps) {v : AV} (h : finA T fi env σ = some (v, σ')) :
    σ' = σ ∧ ∃ u, (results F tmps).run P w = .ok u w ∧ VR Z φ v u ∧ Sc σ.n v := by
  have main : ∀ l, resA T env σ fi.res = some l → ∃ us : List Value, us.length = l.length ∧ VRs Z φ l us ∧ Scs σ.n l ∧ (results F tmps).run P w = .ok (if h : us.length = 1 then us[0] else .tuple ⟨us⟩) w := by
    intro l hl
    rw [hF] at hl
    obtain ⟨us, k1, k2, k3, k4⟩ := res_ok (P := P) hT hI hE _ _ hl
    refine ⟨us, k2, k3, k4, ?_⟩
    unfold results
    rw [Array.mapM_eq_mapM_toList]
    simp only [Sem.run_bind, Sem.run_map]
    exact (congrArg (fun (r : Result (List Value)) => (r.andThen fun a w' => Result.ok a.toArray w').andThen fun a w' => Result.ok (if h : a.size = 1 then a[0] else Value.tuple a) w') k1)
  unfold finA at h
  split at h
  · rename_i x hx
    cases h
    obtain ⟨us, h1, h2, h3, h4⟩ := main _ hx
    match us, h1, h2 with
    | [u], _, h2 => exact ⟨rfl, u, by simpa using h4, h2.1, h3.1⟩
  · rename_i l hne hx
    cases h
    obtain ⟨us, h1, h2, h3, h4⟩ := main _ hx
    refine ⟨rfl, .tuple ⟨us⟩, ?_, ⟨us, rfl, h1, h2⟩, h3⟩
    rw [h4, dif_neg]
    intro h1'
    rw [h1] at h1'
    match l, h1' with
    | [x], _ => exact hne x rfl
  · cases h

theorem params_ok {n : Nat} : ∀ (args : List AV) (us pre : List Value), VRs Z φ args us → Scs n args → ∀ t v, lk (paramsE pre.length args) t = some v → ∃ u, (pre ++ us)[t]? = some u ∧ VR Z φ v u ∧ Sc n v
  | [], us, pre, _, _, t, v, h => by simp [paramsE, lk] at h
  | x :: r, [], pre, hv, _, _, _, _ => hv.elim
  | x :: r, u :: us, pre, hv, hs, t, v, h => by
    simp only [paramsE, lk_cons] at h
    split at h
    · rename_i he
      cases h
      exact ⟨u, by rw [← he]; simp, hv.1, hs.1⟩
    · have := params_ok r us (pre ++ [u]) hv.2 hs.2 t v (by simpa using h)
      simpa using this

/-- One step more of the model's lone machine. -/
theorem Steps.more {m m₁ m₂ : Machine} (h : step P m = .next m₁) (k : Steps P m₁ m₂) : Steps P m m₂ := Steps.head h k

/-- The interpreter's outcome is the model's. -/
theorem exec_ok (hT : TabOK P T) : ∀ n, (∀ (fi : FI) (its : List It) (env : Env) (σ : St) (v : AV) (σ' : St), exec T n fi its env σ = some (v, σ') →
      ∀ (Z : Fz) (φ : Nat → Pl) (a : Act) (w : World) (b : Frame) (cs : List Frame) (F : Func), fi.res = F.results.toList → (∀ x, x ∈ its → ItOK P T fi x) → ER Z φ σ.n env a.tmps → fi.nt ≤ a.tmps.size → Inv Z φ σ w →
        P.funcs[b.fn]? = some F → b.kind = .normal → a.defers = [] →
        ∃ w' fr Z' φ' u, Steps P (lone (b.at a (its.map itC)) cs w) (lone fr cs w') ∧ fr.fn = b.fn ∧ fr.leaving P w' (.returned u) ∧ Good Z φ σ w v σ' Z' φ' u w') ∧ CallOK P (callA T (exec T n)) := by
  intro n
  induction n with
  | zero =>
    refine ⟨fun fi its env σ v σ' h => by simp [exec] at h, ?_⟩
    intro f args σ v σ' h
    unfold callA at h
    split at h
    · exact hT.ext f args σ v σ' h
    exfalso
    split at h
    · cases h
    split at h
    · simp [exec] at h
    · split at h
      · cases h
      · simp [exec] at h
  | succ n ih =>
    obtain ⟨ih, ihC⟩ := ih
    have hret : ∀ (fi : FI) (env : Env) (σ : St) (v : AV) (σ' : St), finA T fi env σ = some (v, σ') → ∀ (Z : Fz) (φ : Nat → Pl) (a : Act) (w : World) (b : Frame) (F : Func), fi.res = F.results.toList → ER Z φ σ.n env a.tmps → Inv Z φ σ w →
        P.funcs[b.fn]? = some F → b.kind = .normal → a.defers = [] → ∀ todo, ∃ u, ({ b.at a todo with mode := .returning } : Frame).leaving P w (.returned u) ∧ Good Z φ σ w v σ' Z φ u w := by
      intro fi env σ v σ' h Z φ a w b F hF hE hI hf hk hd todo
      obtain ⟨rfl, u, h1, h2, h3⟩ := fin_ok (P := P) hT.ty hI hF hE h
      exact ⟨u, ⟨rfl, hd, hk, F, hf, h1⟩, Good.same hI h2 h3⟩
    have main : ∀ (fi : FI) (its : List It) (env : Env) (σ : St) (v : AV) (σ' : St), exec T (n + 1) fi its env σ = some (v, σ') →
      ∀ (Z : Fz) (φ : Nat → Pl) (a : Act) (w : World) (b : Frame) (cs : List Frame) (F : Func), fi.res = F.results.toList → (∀ x, x ∈ its → ItOK P T fi x) → ER Z φ σ.n env a.tmps → fi.nt ≤ a.tmps.size → Inv Z φ σ w →
        P.funcs[b.fn]? = some F → b.kind = .normal → a.defers = [] →
        ∃ w' fr Z' φ' u, Steps P (lone (b.at a (its.map itC)) cs w) (lone fr cs w') ∧ fr.fn = b.fn ∧ fr.leaving P w' (.returned u) ∧ Good Z φ σ w v σ' Z' φ' u w' := by
      intro fi its env σ v σ' h Z φ a w b cs F hF hits hE hn hI hf hk hd
      -- one step of the machine, then the rest
      have more : ∀ (its' : List It), exec T n fi its' env σ = some (v, σ') → (∀ x, x ∈ its' → ItOK P T fi x) → step P (lone (b.at a (its.map itC)) cs w) = .next (lone (b.at a (its'.map itC)) cs w) →
          ∃ w' fr Z' φ' u, Steps P (lone (b.at a (its.map itC)) cs w) (lone fr cs w') ∧ fr.fn = b.fn ∧ fr.leaving P w' (.returned u) ∧ Good Z φ σ w v σ' Z' φ' u w' := by
        intro its' h1 h2 h3
        obtain ⟨w', fr, Z', φ', u, k1, k2⟩ := ih fi its' env σ v σ' h1 Z φ a w b cs F hF h2 hE hn hI hf hk hd
        exact ⟨w', fr, Z', φ', u, Steps.head h3 k1, k2⟩
      rw [exec_succ] at h; unfold execStep at h
      split at h
      · obtain ⟨u, h1, h2⟩ := hret fi env σ v σ' h Z φ a w b F hF hE hI hf hk hd []
        exact ⟨w, _, Z, φ, u, .one step_end, rfl, h1, h2⟩
      · rename_i id k
        exact more k h (fun x hx => hits x (by simp [hx])) step_inBlock
      · rename_i c k
        have hc := hits (.lp c) (by simp)
        exact more (.code c :: .lp c :: k) h (fun x hx => by
          rcases List.mem_cons.1 hx with rfl | hx
          · exact hc
          · rcases List.mem_cons.1 hx with rfl | hx
            · exact hc
            · exact hits x (by simp [hx])) step_inLoop
      · rename_i c k
        have hc := hits (.code c) (by simp)
        have hk' : ∀ x, x ∈ k → ItOK P T fi x := fun x hx => hits x (by simp [hx])
        split at h
        · exact more k h hk' step_skip
        · rename_i p q
          exact more (.code p :: .code q :: k) h (fun x hx => by
            rcases List.mem_cons.1 hx with rfl | hx
            · exact hc.1
            · rcases List.mem_cons.1 hx with rfl | hx
              · exact hc.2
              · exact hk' x hx) step_seq
        · rename_i id ops d
          split at h
          case h_2 => cases h
          rename_i env1 σ1 hr
          have hwp := hc (callA T (exec T n)) ihC env σ env1 σ1 Z φ a w hr hE hn hI
          obtain ⟨e, a1, w1, ⟨rfl, Z1, φ1, q1, q2, q3, q4, q5⟩, harr⟩ := hwp b (k.map itC) cs
          obtain ⟨w', fr, Z', φ', u, k1, k2, k3, g1, g2, g3, g4⟩ := ih fi k env1 σ1 v σ' h Z1 φ1 a1 w1 b cs F hF hk' q1 (by rw [q3]; exact hn) q4 hf hk (q2.trans hd)
          exact ⟨w', fr, Z', φ', u, Steps.trans harr k1, k2, k3, g1, g2, g3, q5.trans g4⟩
        · rename_i x p q
          split at h
          case h_2 => cases h
          rename_i t ht
          have hx := (evo_ok hE ht).1
          simp only [VR] at hx
          split at h
          · rename_i htt
            subst htt
            exact more (.code p :: k) h (fun x hx => by
              rcases List.mem_cons.1 hx with rfl | hx
              · exact hc.1
              · exact hk' x hx) (step_cond hx)
          · rename_i htt
            have htf : t = false := by simpa using htt
            subst htf
            exact more (.code q :: k) h (fun x hx => by
              rcases List.mem_cons.1 hx with rfl | hx
              · exact hc.2
              · exact hk' x hx) (step_cond hx)
        · rename_i id p
          exact more (.code p :: .blk id :: k) h (fun x hx => by
            rcases List.mem_cons.1 hx with rfl | hx
            · exact hc
            · rcases List.mem_cons.1 hx with rfl | hx
              · trivial
              · exact hk' x hx) step_block
        · rename_i p
          exact more (.code p :: .lp p :: k) h (fun x hx => by
            rcases List.mem_cons.1 hx with rfl | hx
            · exact hc
            · rcases List.mem_cons.1 hx with rfl | hx
              · exact hc
              · exact hk' x hx) step_loop
        · rename_i id
          split at h
          case h_2 => cases h
          rename_i k' hk2
          obtain ⟨e1, e2⟩ := exitA_ok k k' hk2
          exact more k' h (fun x hx => hk' x (e2 x hx)) (step_exit e1)
        · obtain ⟨u, h1, h2⟩ := hret fi env σ v σ' h Z φ a w b F hF hE hI hf hk hd ((.code .ret) :: k.map itC)
          exact ⟨w, _, Z, φ, u, .one step_ret, rfl, h1, h2⟩
        · cases h
    refine ⟨main, ?_⟩
    intro f args σ v σ' h Z φ w us hI hv hsz hs
    unfold callA at h
    split at h
    · exact hT.ext f args σ v σ' h Z φ w us hI hv hsz hs
    rename_i F hF
    split at h
    · cases h
    rename_i c hc
    refine ⟨hT.call f F hF us w, ?_⟩
    have hfun := hT.fn f F hF
    -- the body, from a heap and arguments
    have body : ∀ (args : List AV) (σ : St) (Z : Fz) (v : AV) (σ1 : St), exec T (n + 1) (FI.of F (T.an f)) [.code c] (paramsE 0 args) σ = some (v, σ1) → Inv Z φ σ w → VRs Z φ args us.toList → Scs σ.n args →
        Calls P f us w fun e w' => ∃ Z' φ' u, e = .returned u ∧ Good Z φ σ w v σ1 Z' φ' u w' := by
      intro args σ Z v σ1 h hI hv hs cs
      let b : Frame := { (default : Frame) with fn := f, kind := .normal }
      have henter : Frame.enter P f us .normal = b.at { tmps := us ++ Array.replicate (F.ntmps - us.size) undef, defers := [] } [.code c] := by
        simp [Frame.enter, Frame.at, hfun, hc, b]
      have hE : ER Z φ σ.n (paramsE 0 args) (us ++ Array.replicate (F.ntmps - us.size) undef) := by
        intro t v ht
        obtain ⟨u, h1, h2, h3⟩ := params_ok (n := σ.n) args us.toList [] hv hs t v ht
        refine ⟨u, ?_, h2, h3⟩
        have hlt : t < us.size := by have := (List.getElem?_eq_some_iff.1 h1).1; simpa using this
        rw [Array.getElem?_append_left hlt]
        simpa using h1
      obtain ⟨w', fr, Z', φ', u, k1, k2, k3, k4⟩ := main (FI.of F (T.an f)) [.code c] (paramsE 0 args) σ v σ1 h Z φ { tmps := us ++ Array.replicate (F.ntmps - us.size) undef, defers := [] } w b cs F rfl
        (fun x hx => by
          have : x = .code c := by simpa using hx
          subst this
          exact hT.code f F c hF hc) hE (by simp [FI.of]; omega) hI hfun rfl rfl
      refine ⟨.returned u, w', fr, ⟨Z', φ', u, rfl, k4⟩, ?_, k2, k3⟩
      rw [henter]
      exact k1
    split at h
    · exact body args σ Z v σ' h hI hv hs
    · split at h
      · cases h
      rename_i args' hargs
      split at h
      · cases h
      rename_i v1 σ1 hex
      obtain ⟨p1, p2, p3⟩ := args_ok hI hargs hv hs
      have hE := body args' ⟨[], 0⟩ _ v1 σ1 hex (Inv.empty φ (fzUp_real hI.z)) p1 p2
      split at h
      · refine Calls.mono hE ?_
        rintro e w' ⟨Z1, φ1, u, rfl, hG⟩
        obtain ⟨Z', hg⟩ := frzR_ok hI hG h
        exact ⟨Z', φ, u, rfl, hg⟩
      · refine Calls.mono hE ?_
        rintro e w' ⟨Z1, φ1, u, rfl, hG⟩
        obtain ⟨φ', hg⟩ := ownR_ok hI hG h
        exact ⟨Z, φ', u, rfl, hg⟩

end Go.Abs
