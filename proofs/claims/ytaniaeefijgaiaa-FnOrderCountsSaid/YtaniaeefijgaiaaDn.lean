/- Law: counts of orders. Nothing is claimed here; no condition. -/
import Derived.Test.YtaniaeefijgaiaaDl
import Derived.Test.YtaniaeefijgaiaaDf
namespace Go.Proofs.Ytaniaeefijgaiaa
open Go Go.Abs
set_option linter.unusedSimpArgs false
set_option linter.unusedVariables false
/-! ### Counts: plain law -/
def inc1 (l : List Int) (k : Nat) : List Int := l.set k (at0 l k + 1)
def cntO (n : Nat) : Nat → Nat → List Int → List Int → Option (List Int × List Int)
  | 0, _, cy, ri => some (cy, ri)
  | m + 1, i, cy, ri => match Nat.ble (cyc (ordAt n (iotaF 0 n) i [])).length n && inR (ris (ordAt n (iotaF 0 n) i [])) 1 n with
    | true => cntO n m (i + 1) (inc1 cy (cyc (ordAt n (iotaF 0 n) i [])).length) (inc1 ri (ris (ordAt n (iotaF 0 n) i [])).toNat)
    | false => none
theorem inc1_length (l : List Int) (k : Nat) : (inc1 l k).length = l.length := by simp [inc1]
theorem inc1_bound {l : List Int} {k : Nat} {i : Int} (hk : k < l.length) (h : ∀ j, 0 ≤ at0 l j ∧ at0 l j ≤ i) : ∀ j, 0 ≤ at0 (inc1 l k) j ∧ at0 (inc1 l k) j ≤ i + 1 := fun j => by
  rw [inc1, at0_set _ _ _ _ hk]
  have h1 := h j; have h2 := h k
  split <;> omega
theorem at0_rep (n j : Nat) : at0 (List.replicate n 0) j = 0 := by
  unfold at0
  rw [List.getD_eq_getElem?_getD, List.getElem?_replicate]
  split <;> rfl
def cyT : List (List Int) := [[1], [0, 1], [0, 1, 1], [0, 2, 3, 1], [0, 6, 11, 6, 1], [0, 24, 50, 35, 10, 1], [0, 120, 274, 225, 85, 15, 1]]
def riT : List (List Int) := [[], [0, 1], [0, 1, 1], [0, 1, 4, 1], [0, 1, 11, 11, 1], [0, 1, 26, 66, 26, 1], [0, 1, 57, 302, 302, 57, 1]]
theorem cnt1 : cntO 1 1 0 (List.replicate 2 0) (List.replicate 2 0) = some (atL cyT 1, atL riT 1) := by decide +kernel
theorem cnt2 : cntO 2 2 0 (List.replicate 3 0) (List.replicate 3 0) = some (atL cyT 2, atL riT 2) := by decide +kernel
theorem cnt3 : cntO 3 6 0 (List.replicate 4 0) (List.replicate 4 0) = some (atL cyT 3, atL riT 3) := by decide +kernel
theorem cnt4 : cntO 4 24 0 (List.replicate 5 0) (List.replicate 5 0) = some (atL cyT 4, atL riT 4) := by decide +kernel
theorem cnt5 : cntO 5 120 0 (List.replicate 6 0) (List.replicate 6 0) = some (atL cyT 5, atL riT 5) := by decide +kernel
theorem cnt6 : cntO 6 720 0 (List.replicate 7 0) (List.replicate 7 0) = some (atL cyT 6, atL riT 6) := by decide +kernel
theorem cnt_all {n : Nat} (h1 : 1 ≤ n) (h6 : n ≤ 6) : cntO n (fac n) 0 (List.replicate (n + 1) 0) (List.replicate (n + 1) 0) = some (atL cyT n, atL riT n) ∧ (atL cyT n).length = n + 1 ∧ (atL riT n).length = n + 1 := by
  have : n = 1 ∨ n = 2 ∨ n = 3 ∨ n = 4 ∨ n = 5 ∨ n = 6 := by omega
  rcases this with rfl | rfl | rfl | rfl | rfl | rfl
  · exact ⟨cnt1, rfl, rfl⟩
  · exact ⟨cnt2, rfl, rfl⟩
  · exact ⟨cnt3, rfl, rfl⟩
  · exact ⟨cnt4, rfl, rfl⟩
  · exact ⟨cnt5, rfl, rfl⟩
  · exact ⟨cnt6, rfl, rfl⟩
def digs (m : Nat) : Nat → Nat → List Int
  | 0, _ => []
  | k + 1, x => ((modN x m : Nat) : Int) :: digs m k (divN x m)
def divs (m : Nat) : Nat → Nat → Nat
  | 0, x => x
  | k + 1, x => divs m k (divN x m)
theorem digs_length (m : Nat) : ∀ k x, (digs m k x).length = k
  | 0, _ => rfl
  | k + 1, x => by simp [digs, digs_length m k]
theorem digs_in {m : Nat} (hm : 0 < m) : ∀ k x, ∀ c ∈ digs m k x, 0 ≤ c ∧ c < m
  | 0, _, _, h => by simp [digs] at h
  | k + 1, x, c, h => by
    rcases List.mem_cons.1 h with rfl | h
    · have : modN x m < m := Nat.mod_lt _ hm
      omega
    · exact digs_in hm k _ c h
def ownN (m : Nat) : Nat → Nat → List Int → Option (List Int)
  | 0, _, own => some own
  | k + 1, x, own => match isO (naive (digs m m x) 0 (iotaF 0 m)) with
    | true => ownN m k (x + 1) (bump m (digs m m x) own)
    | false => none
def ncL (m : Nat) : List Int := ncG m 3126 (List.replicate m 0) (List.replicate (fac m) 0)
theorem own1 : ownN 1 1 0 (List.replicate 1 0) = some (ncL 1) := by decide +kernel
theorem own2_ : ownN 2 4 0 (List.replicate 2 0) = some (ncL 2) := by decide +kernel
theorem own3 : ownN 3 27 0 (List.replicate 6 0) = some (ncL 3) := by decide +kernel
theorem own4 : ownN 4 256 0 (List.replicate 24 0) = some (ncL 4) := by decide +kernel
theorem own_all {m : Nat} (h1 : 1 ≤ m) (h4 : m ≤ 4) : ownN m (m ^ m) 0 (List.replicate (fac m) 0) = some (ncL m) ∧ m ^ m ≤ 256 := by
  have : m = 1 ∨ m = 2 ∨ m = 3 ∨ m = 4 := by omega
  rcases this with rfl | rfl | rfl | rfl
  · exact ⟨own1, by decide⟩
  · exact ⟨own2_, by decide⟩
  · exact ⟨own3, by decide⟩
  · exact ⟨own4, by decide⟩

theorem v62_1_0 : FnV TT 62 [.int .i64 1, .int .i64 0] (.tup [.int .i64 (at0 (atL cyT 1) 0), .bool true]) := FnV.mk fn62 rfl md62 (exI_of_exec (n := 10000) (by kernel_rfl)) (fun _ => rfl) rfl
theorem v62_1_1 : FnV TT 62 [.int .i64 1, .int .i64 1] (.tup [.int .i64 (at0 (atL cyT 1) 1), .bool true]) := FnV.mk fn62 rfl md62 (exI_of_exec (n := 10000) (by kernel_rfl)) (fun _ => rfl) rfl
theorem v62_2_0 : FnV TT 62 [.int .i64 2, .int .i64 0] (.tup [.int .i64 (at0 (atL cyT 2) 0), .bool true]) := FnV.mk fn62 rfl md62 (exI_of_exec (n := 10000) (by kernel_rfl)) (fun _ => rfl) rfl
theorem v62_2_1 : FnV TT 62 [.int .i64 2, .int .i64 1] (.tup [.int .i64 (at0 (atL cyT 2) 1), .bool true]) := FnV.mk fn62 rfl md62 (exI_of_exec (n := 10000) (by kernel_rfl)) (fun _ => rfl) rfl
theorem v62_2_2 : FnV TT 62 [.int .i64 2, .int .i64 2] (.tup [.int .i64 (at0 (atL cyT 2) 2), .bool true]) := FnV.mk fn62 rfl md62 (exI_of_exec (n := 10000) (by kernel_rfl)) (fun _ => rfl) rfl
theorem v62_3_0 : FnV TT 62 [.int .i64 3, .int .i64 0] (.tup [.int .i64 (at0 (atL cyT 3) 0), .bool true]) := FnV.mk fn62 rfl md62 (exI_of_exec (n := 10000) (by kernel_rfl)) (fun _ => rfl) rfl
theorem v62_3_1 : FnV TT 62 [.int .i64 3, .int .i64 1] (.tup [.int .i64 (at0 (atL cyT 3) 1), .bool true]) := FnV.mk fn62 rfl md62 (exI_of_exec (n := 10000) (by kernel_rfl)) (fun _ => rfl) rfl
theorem v62_3_2 : FnV TT 62 [.int .i64 3, .int .i64 2] (.tup [.int .i64 (at0 (atL cyT 3) 2), .bool true]) := FnV.mk fn62 rfl md62 (exI_of_exec (n := 10000) (by kernel_rfl)) (fun _ => rfl) rfl
theorem v62_3_3 : FnV TT 62 [.int .i64 3, .int .i64 3] (.tup [.int .i64 (at0 (atL cyT 3) 3), .bool true]) := FnV.mk fn62 rfl md62 (exI_of_exec (n := 10000) (by kernel_rfl)) (fun _ => rfl) rfl
theorem v62_4_0 : FnV TT 62 [.int .i64 4, .int .i64 0] (.tup [.int .i64 (at0 (atL cyT 4) 0), .bool true]) := FnV.mk fn62 rfl md62 (exI_of_exec (n := 10000) (by kernel_rfl)) (fun _ => rfl) rfl
theorem v62_4_1 : FnV TT 62 [.int .i64 4, .int .i64 1] (.tup [.int .i64 (at0 (atL cyT 4) 1), .bool true]) := FnV.mk fn62 rfl md62 (exI_of_exec (n := 10000) (by kernel_rfl)) (fun _ => rfl) rfl
theorem v62_4_2 : FnV TT 62 [.int .i64 4, .int .i64 2] (.tup [.int .i64 (at0 (atL cyT 4) 2), .bool true]) := FnV.mk fn62 rfl md62 (exI_of_exec (n := 10000) (by kernel_rfl)) (fun _ => rfl) rfl
theorem v62_4_3 : FnV TT 62 [.int .i64 4, .int .i64 3] (.tup [.int .i64 (at0 (atL cyT 4) 3), .bool true]) := FnV.mk fn62 rfl md62 (exI_of_exec (n := 10000) (by kernel_rfl)) (fun _ => rfl) rfl
theorem v62_4_4 : FnV TT 62 [.int .i64 4, .int .i64 4] (.tup [.int .i64 (at0 (atL cyT 4) 4), .bool true]) := FnV.mk fn62 rfl md62 (exI_of_exec (n := 10000) (by kernel_rfl)) (fun _ => rfl) rfl
theorem v62_5_0 : FnV TT 62 [.int .i64 5, .int .i64 0] (.tup [.int .i64 (at0 (atL cyT 5) 0), .bool true]) := FnV.mk fn62 rfl md62 (exI_of_exec (n := 10000) (by kernel_rfl)) (fun _ => rfl) rfl
theorem v62_5_1 : FnV TT 62 [.int .i64 5, .int .i64 1] (.tup [.int .i64 (at0 (atL cyT 5) 1), .bool true]) := FnV.mk fn62 rfl md62 (exI_of_exec (n := 10000) (by kernel_rfl)) (fun _ => rfl) rfl
theorem v62_5_2 : FnV TT 62 [.int .i64 5, .int .i64 2] (.tup [.int .i64 (at0 (atL cyT 5) 2), .bool true]) := FnV.mk fn62 rfl md62 (exI_of_exec (n := 10000) (by kernel_rfl)) (fun _ => rfl) rfl
theorem v62_5_3 : FnV TT 62 [.int .i64 5, .int .i64 3] (.tup [.int .i64 (at0 (atL cyT 5) 3), .bool true]) := FnV.mk fn62 rfl md62 (exI_of_exec (n := 10000) (by kernel_rfl)) (fun _ => rfl) rfl
theorem v62_5_4 : FnV TT 62 [.int .i64 5, .int .i64 4] (.tup [.int .i64 (at0 (atL cyT 5) 4), .bool true]) := FnV.mk fn62 rfl md62 (exI_of_exec (n := 10000) (by kernel_rfl)) (fun _ => rfl) rfl
theorem v62_5_5 : FnV TT 62 [.int .i64 5, .int .i64 5] (.tup [.int .i64 (at0 (atL cyT 5) 5), .bool true]) := FnV.mk fn62 rfl md62 (exI_of_exec (n := 10000) (by kernel_rfl)) (fun _ => rfl) rfl
theorem v62_6_0 : FnV TT 62 [.int .i64 6, .int .i64 0] (.tup [.int .i64 (at0 (atL cyT 6) 0), .bool true]) := FnV.mk fn62 rfl md62 (exI_of_exec (n := 10000) (by kernel_rfl)) (fun _ => rfl) rfl
theorem v62_6_1 : FnV TT 62 [.int .i64 6, .int .i64 1] (.tup [.int .i64 (at0 (atL cyT 6) 1), .bool true]) := FnV.mk fn62 rfl md62 (exI_of_exec (n := 10000) (by kernel_rfl)) (fun _ => rfl) rfl
theorem v62_6_2 : FnV TT 62 [.int .i64 6, .int .i64 2] (.tup [.int .i64 (at0 (atL cyT 6) 2), .bool true]) := FnV.mk fn62 rfl md62 (exI_of_exec (n := 10000) (by kernel_rfl)) (fun _ => rfl) rfl
theorem v62_6_3 : FnV TT 62 [.int .i64 6, .int .i64 3] (.tup [.int .i64 (at0 (atL cyT 6) 3), .bool true]) := FnV.mk fn62 rfl md62 (exI_of_exec (n := 10000) (by kernel_rfl)) (fun _ => rfl) rfl
theorem v62_6_4 : FnV TT 62 [.int .i64 6, .int .i64 4] (.tup [.int .i64 (at0 (atL cyT 6) 4), .bool true]) := FnV.mk fn62 rfl md62 (exI_of_exec (n := 10000) (by kernel_rfl)) (fun _ => rfl) rfl
theorem v62_6_5 : FnV TT 62 [.int .i64 6, .int .i64 5] (.tup [.int .i64 (at0 (atL cyT 6) 5), .bool true]) := FnV.mk fn62 rfl md62 (exI_of_exec (n := 10000) (by kernel_rfl)) (fun _ => rfl) rfl
theorem v62_6_6 : FnV TT 62 [.int .i64 6, .int .i64 6] (.tup [.int .i64 (at0 (atL cyT 6) 6), .bool true]) := FnV.mk fn62 rfl md62 (exI_of_exec (n := 10000) (by kernel_rfl)) (fun _ => rfl) rfl
theorem v62 {n k : Nat} (h1 : 1 ≤ n) (h6 : n ≤ 6) (hk : k ≤ n) (σ : St) : callI TT 62 [.int .i64 n, .int .i64 k] σ = some (.tup [.int .i64 (at0 (atL cyT n) k), .bool true], σ) := by
  have : FnV TT 62 [.int .i64 n, .int .i64 k] (.tup [.int .i64 (at0 (atL cyT n) k), .bool true]) := by
    have : n = 1 ∨ n = 2 ∨ n = 3 ∨ n = 4 ∨ n = 5 ∨ n = 6 := by omega
    rcases this with rfl | rfl | rfl | rfl | rfl | rfl

    · have : k = 0 ∨ k = 1 := by omega
      rcases this with rfl | rfl
      · exact v62_1_0
      · exact v62_1_1
    · have : k = 0 ∨ k = 1 ∨ k = 2 := by omega
      rcases this with rfl | rfl | rfl
      · exact v62_2_0
      · exact v62_2_1
      · exact v62_2_2
    · have : k = 0 ∨ k = 1 ∨ k = 2 ∨ k = 3 := by omega
      rcases this with rfl | rfl | rfl | rfl
      · exact v62_3_0
      · exact v62_3_1
      · exact v62_3_2
      · exact v62_3_3
    · have : k = 0 ∨ k = 1 ∨ k = 2 ∨ k = 3 ∨ k = 4 := by omega
      rcases this with rfl | rfl | rfl | rfl | rfl
      · exact v62_4_0
      · exact v62_4_1
      · exact v62_4_2
      · exact v62_4_3
      · exact v62_4_4
    · have : k = 0 ∨ k = 1 ∨ k = 2 ∨ k = 3 ∨ k = 4 ∨ k = 5 := by omega
      rcases this with rfl | rfl | rfl | rfl | rfl | rfl
      · exact v62_5_0
      · exact v62_5_1
      · exact v62_5_2
      · exact v62_5_3
      · exact v62_5_4
      · exact v62_5_5
    · have : k = 0 ∨ k = 1 ∨ k = 2 ∨ k = 3 ∨ k = 4 ∨ k = 5 ∨ k = 6 := by omega
      rcases this with rfl | rfl | rfl | rfl | rfl | rfl | rfl
      · exact v62_6_0
      · exact v62_6_1
      · exact v62_6_2
      · exact v62_6_3
      · exact v62_6_4
      · exact v62_6_5
      · exact v62_6_6
  exact this σ _ rfl
theorem v63_1_0 : FnV TT 63 [.int .i64 1, .int .i64 0] (.tup [.int .i64 (at0 (atL riT 1) 0), .bool true]) := FnV.mk fn63 rfl md63 (exI_of_exec (n := 10000) (by kernel_rfl)) (fun _ => rfl) rfl
theorem v63_1_1 : FnV TT 63 [.int .i64 1, .int .i64 1] (.tup [.int .i64 (at0 (atL riT 1) 1), .bool true]) := FnV.mk fn63 rfl md63 (exI_of_exec (n := 10000) (by kernel_rfl)) (fun _ => rfl) rfl
theorem v63_2_0 : FnV TT 63 [.int .i64 2, .int .i64 0] (.tup [.int .i64 (at0 (atL riT 2) 0), .bool true]) := FnV.mk fn63 rfl md63 (exI_of_exec (n := 10000) (by kernel_rfl)) (fun _ => rfl) rfl
theorem v63_2_1 : FnV TT 63 [.int .i64 2, .int .i64 1] (.tup [.int .i64 (at0 (atL riT 2) 1), .bool true]) := FnV.mk fn63 rfl md63 (exI_of_exec (n := 10000) (by kernel_rfl)) (fun _ => rfl) rfl
theorem v63_2_2 : FnV TT 63 [.int .i64 2, .int .i64 2] (.tup [.int .i64 (at0 (atL riT 2) 2), .bool true]) := FnV.mk fn63 rfl md63 (exI_of_exec (n := 10000) (by kernel_rfl)) (fun _ => rfl) rfl
theorem v63_3_0 : FnV TT 63 [.int .i64 3, .int .i64 0] (.tup [.int .i64 (at0 (atL riT 3) 0), .bool true]) := FnV.mk fn63 rfl md63 (exI_of_exec (n := 10000) (by kernel_rfl)) (fun _ => rfl) rfl
theorem v63_3_1 : FnV TT 63 [.int .i64 3, .int .i64 1] (.tup [.int .i64 (at0 (atL riT 3) 1), .bool true]) := FnV.mk fn63 rfl md63 (exI_of_exec (n := 10000) (by kernel_rfl)) (fun _ => rfl) rfl
theorem v63_3_2 : FnV TT 63 [.int .i64 3, .int .i64 2] (.tup [.int .i64 (at0 (atL riT 3) 2), .bool true]) := FnV.mk fn63 rfl md63 (exI_of_exec (n := 10000) (by kernel_rfl)) (fun _ => rfl) rfl
theorem v63_3_3 : FnV TT 63 [.int .i64 3, .int .i64 3] (.tup [.int .i64 (at0 (atL riT 3) 3), .bool true]) := FnV.mk fn63 rfl md63 (exI_of_exec (n := 10000) (by kernel_rfl)) (fun _ => rfl) rfl
theorem v63_4_0 : FnV TT 63 [.int .i64 4, .int .i64 0] (.tup [.int .i64 (at0 (atL riT 4) 0), .bool true]) := FnV.mk fn63 rfl md63 (exI_of_exec (n := 10000) (by kernel_rfl)) (fun _ => rfl) rfl
theorem v63_4_1 : FnV TT 63 [.int .i64 4, .int .i64 1] (.tup [.int .i64 (at0 (atL riT 4) 1), .bool true]) := FnV.mk fn63 rfl md63 (exI_of_exec (n := 10000) (by kernel_rfl)) (fun _ => rfl) rfl
theorem v63_4_2 : FnV TT 63 [.int .i64 4, .int .i64 2] (.tup [.int .i64 (at0 (atL riT 4) 2), .bool true]) := FnV.mk fn63 rfl md63 (exI_of_exec (n := 10000) (by kernel_rfl)) (fun _ => rfl) rfl
theorem v63_4_3 : FnV TT 63 [.int .i64 4, .int .i64 3] (.tup [.int .i64 (at0 (atL riT 4) 3), .bool true]) := FnV.mk fn63 rfl md63 (exI_of_exec (n := 10000) (by kernel_rfl)) (fun _ => rfl) rfl
theorem v63_4_4 : FnV TT 63 [.int .i64 4, .int .i64 4] (.tup [.int .i64 (at0 (atL riT 4) 4), .bool true]) := FnV.mk fn63 rfl md63 (exI_of_exec (n := 10000) (by kernel_rfl)) (fun _ => rfl) rfl
theorem v63_5_0 : FnV TT 63 [.int .i64 5, .int .i64 0] (.tup [.int .i64 (at0 (atL riT 5) 0), .bool true]) := FnV.mk fn63 rfl md63 (exI_of_exec (n := 10000) (by kernel_rfl)) (fun _ => rfl) rfl
theorem v63_5_1 : FnV TT 63 [.int .i64 5, .int .i64 1] (.tup [.int .i64 (at0 (atL riT 5) 1), .bool true]) := FnV.mk fn63 rfl md63 (exI_of_exec (n := 10000) (by kernel_rfl)) (fun _ => rfl) rfl
theorem v63_5_2 : FnV TT 63 [.int .i64 5, .int .i64 2] (.tup [.int .i64 (at0 (atL riT 5) 2), .bool true]) := FnV.mk fn63 rfl md63 (exI_of_exec (n := 10000) (by kernel_rfl)) (fun _ => rfl) rfl
theorem v63_5_3 : FnV TT 63 [.int .i64 5, .int .i64 3] (.tup [.int .i64 (at0 (atL riT 5) 3), .bool true]) := FnV.mk fn63 rfl md63 (exI_of_exec (n := 10000) (by kernel_rfl)) (fun _ => rfl) rfl
theorem v63_5_4 : FnV TT 63 [.int .i64 5, .int .i64 4] (.tup [.int .i64 (at0 (atL riT 5) 4), .bool true]) := FnV.mk fn63 rfl md63 (exI_of_exec (n := 10000) (by kernel_rfl)) (fun _ => rfl) rfl
theorem v63_5_5 : FnV TT 63 [.int .i64 5, .int .i64 5] (.tup [.int .i64 (at0 (atL riT 5) 5), .bool true]) := FnV.mk fn63 rfl md63 (exI_of_exec (n := 10000) (by kernel_rfl)) (fun _ => rfl) rfl
theorem v63_6_0 : FnV TT 63 [.int .i64 6, .int .i64 0] (.tup [.int .i64 (at0 (atL riT 6) 0), .bool true]) := FnV.mk fn63 rfl md63 (exI_of_exec (n := 10000) (by kernel_rfl)) (fun _ => rfl) rfl
theorem v63_6_1 : FnV TT 63 [.int .i64 6, .int .i64 1] (.tup [.int .i64 (at0 (atL riT 6) 1), .bool true]) := FnV.mk fn63 rfl md63 (exI_of_exec (n := 10000) (by kernel_rfl)) (fun _ => rfl) rfl
theorem v63_6_2 : FnV TT 63 [.int .i64 6, .int .i64 2] (.tup [.int .i64 (at0 (atL riT 6) 2), .bool true]) := FnV.mk fn63 rfl md63 (exI_of_exec (n := 10000) (by kernel_rfl)) (fun _ => rfl) rfl
theorem v63_6_3 : FnV TT 63 [.int .i64 6, .int .i64 3] (.tup [.int .i64 (at0 (atL riT 6) 3), .bool true]) := FnV.mk fn63 rfl md63 (exI_of_exec (n := 10000) (by kernel_rfl)) (fun _ => rfl) rfl
theorem v63_6_4 : FnV TT 63 [.int .i64 6, .int .i64 4] (.tup [.int .i64 (at0 (atL riT 6) 4), .bool true]) := FnV.mk fn63 rfl md63 (exI_of_exec (n := 10000) (by kernel_rfl)) (fun _ => rfl) rfl
theorem v63_6_5 : FnV TT 63 [.int .i64 6, .int .i64 5] (.tup [.int .i64 (at0 (atL riT 6) 5), .bool true]) := FnV.mk fn63 rfl md63 (exI_of_exec (n := 10000) (by kernel_rfl)) (fun _ => rfl) rfl
theorem v63_6_6 : FnV TT 63 [.int .i64 6, .int .i64 6] (.tup [.int .i64 (at0 (atL riT 6) 6), .bool true]) := FnV.mk fn63 rfl md63 (exI_of_exec (n := 10000) (by kernel_rfl)) (fun _ => rfl) rfl
theorem v63 {n k : Nat} (h1 : 1 ≤ n) (h6 : n ≤ 6) (hk : k ≤ n) (σ : St) : callI TT 63 [.int .i64 n, .int .i64 k] σ = some (.tup [.int .i64 (at0 (atL riT n) k), .bool true], σ) := by
  have : FnV TT 63 [.int .i64 n, .int .i64 k] (.tup [.int .i64 (at0 (atL riT n) k), .bool true]) := by
    have : n = 1 ∨ n = 2 ∨ n = 3 ∨ n = 4 ∨ n = 5 ∨ n = 6 := by omega
    rcases this with rfl | rfl | rfl | rfl | rfl | rfl

    · have : k = 0 ∨ k = 1 := by omega
      rcases this with rfl | rfl
      · exact v63_1_0
      · exact v63_1_1
    · have : k = 0 ∨ k = 1 ∨ k = 2 := by omega
      rcases this with rfl | rfl | rfl
      · exact v63_2_0
      · exact v63_2_1
      · exact v63_2_2
    · have : k = 0 ∨ k = 1 ∨ k = 2 ∨ k = 3 := by omega
      rcases this with rfl | rfl | rfl | rfl
      · exact v63_3_0
      · exact v63_3_1
      · exact v63_3_2
      · exact v63_3_3
    · have : k = 0 ∨ k = 1 ∨ k = 2 ∨ k = 3 ∨ k = 4 := by omega
      rcases this with rfl | rfl | rfl | rfl | rfl
      · exact v63_4_0
      · exact v63_4_1
      · exact v63_4_2
      · exact v63_4_3
      · exact v63_4_4
    · have : k = 0 ∨ k = 1 ∨ k = 2 ∨ k = 3 ∨ k = 4 ∨ k = 5 := by omega
      rcases this with rfl | rfl | rfl | rfl | rfl | rfl
      · exact v63_5_0
      · exact v63_5_1
      · exact v63_5_2
      · exact v63_5_3
      · exact v63_5_4
      · exact v63_5_5
    · have : k = 0 ∨ k = 1 ∨ k = 2 ∨ k = 3 ∨ k = 4 ∨ k = 5 ∨ k = 6 := by omega
      rcases this with rfl | rfl | rfl | rfl | rfl | rfl | rfl
      · exact v63_6_0
      · exact v63_6_1
      · exact v63_6_2
      · exact v63_6_3
      · exact v63_6_4
      · exact v63_6_5
      · exact v63_6_6
  exact this σ _ rfl
noncomputable def b19 : Code := Try.f19.body.getD .skip
noncomputable def B19_0 : Code := (bodyC (bodyC (sndC (fstC (sndC (sndC (sndC (sndC (sndC b19)))))))))
noncomputable def K19_0 : List It := .lp B19_0 :: .blk 0 :: .code (sndC (sndC (sndC (sndC (sndC (sndC b19)))))) :: []
theorem xl19_0 {fi : FI} {env : Env} {σ : St} : exI TT fi K19_0 env σ = exI TT fi (.code B19_0 :: K19_0) env σ := by unfold K19_0; exact xI_lp
noncomputable def R19_0_0 : List It := .code (sndC (sndC (sndC (sndC (sndC (sndC b19)))))) :: []
theorem eK19_0_0 : exitA 0 K19_0 = some R19_0_0 := rfl
noncomputable def B19_1 : Code := (bodyC (bodyC (sndC (fstC (sndC (sndC (sndC (sndC (sndC (sndC b19))))))))))
noncomputable def K19_1 : List It := .lp B19_1 :: .blk 2 :: .code (sndC (sndC (sndC (sndC (sndC (sndC (sndC b19))))))) :: []
theorem xl19_1 {fi : FI} {env : Env} {σ : St} : exI TT fi K19_1 env σ = exI TT fi (.code B19_1 :: K19_1) env σ := by unfold K19_1; exact xI_lp
noncomputable def R19_1_2 : List It := .code (sndC (sndC (sndC (sndC (sndC (sndC (sndC b19))))))) :: []
theorem eK19_1_2 : exitA 2 K19_1 = some R19_1_2 := rfl
noncomputable def B19_2 : Code := (bodyC (bodyC (sndC (fstC (sndC (sndC (sndC (sndC (sndC (sndC (sndC (sndC (sndC (sndC (sndC (sndC b19))))))))))))))))
noncomputable def K19_2 : List It := .lp B19_2 :: .blk 4 :: .code (sndC (sndC (sndC (sndC (sndC (sndC (sndC (sndC (sndC (sndC (sndC (sndC (sndC b19))))))))))))) :: []
theorem xl19_2 {fi : FI} {env : Env} {σ : St} : exI TT fi K19_2 env σ = exI TT fi (.code B19_2 :: K19_2) env σ := by unfold K19_2; exact xI_lp
noncomputable def R19_2_4 : List It := .code (sndC (sndC (sndC (sndC (sndC (sndC (sndC (sndC (sndC (sndC (sndC (sndC (sndC b19))))))))))))) :: []
theorem eK19_2_4 : exitA 4 K19_2 = some R19_2_4 := rfl
noncomputable def B19_3 : Code := (bodyC (bodyC (sndC (fstC (sndC (sndC (sndC (sndC (sndC (sndC (sndC (sndC (sndC (sndC (sndC (sndC (sndC b19)))))))))))))))))
noncomputable def K19_3 : List It := .lp B19_3 :: .blk 6 :: .code (sndC (sndC (sndC (sndC (sndC (sndC (sndC (sndC (sndC (sndC (sndC (sndC (sndC (sndC b19)))))))))))))) :: []
theorem xl19_3 {fi : FI} {env : Env} {σ : St} : exI TT fi K19_3 env σ = exI TT fi (.code B19_3 :: K19_3) env σ := by unfold K19_3; exact xI_lp
noncomputable def R19_3_6 : List It := .code (sndC (sndC (sndC (sndC (sndC (sndC (sndC (sndC (sndC (sndC (sndC (sndC (sndC (sndC b19)))))))))))))) :: []
theorem eK19_3_6 : exitA 6 K19_3 = some R19_3_6 := rfl
noncomputable def B19_4 : Code := (bodyC (bodyC (sndC (fstC (sndC (sndC (bodyC (fstC (sndC (bodyC (bodyC (sndC (fstC (sndC (sndC (sndC (sndC (sndC (sndC (sndC (sndC (sndC (sndC (sndC (sndC (sndC b19))))))))))))))))))))))))))
noncomputable def K19_4 : List It := .lp B19_4 :: .blk 8 :: .code (sndC (sndC (sndC (bodyC (fstC (sndC (bodyC (bodyC (sndC (fstC (sndC (sndC (sndC (sndC (sndC (sndC (sndC (sndC (sndC (sndC (sndC (sndC (sndC b19))))))))))))))))))))))) :: .blk 7 :: .code (sndC (sndC (bodyC (bodyC (sndC (fstC (sndC (sndC (sndC (sndC (sndC (sndC (sndC (sndC (sndC (sndC (sndC (sndC (sndC b19))))))))))))))))))) :: K19_3
theorem xl19_4 {fi : FI} {env : Env} {σ : St} : exI TT fi K19_4 env σ = exI TT fi (.code B19_4 :: K19_4) env σ := by unfold K19_4; exact xI_lp
noncomputable def R19_4_8 : List It := .code (sndC (sndC (sndC (bodyC (fstC (sndC (bodyC (bodyC (sndC (fstC (sndC (sndC (sndC (sndC (sndC (sndC (sndC (sndC (sndC (sndC (sndC (sndC (sndC b19))))))))))))))))))))))) :: .blk 7 :: .code (sndC (sndC (bodyC (bodyC (sndC (fstC (sndC (sndC (sndC (sndC (sndC (sndC (sndC (sndC (sndC (sndC (sndC (sndC (sndC b19))))))))))))))))))) :: K19_3
theorem eK19_4_8 : exitA 8 K19_4 = some R19_4_8 := rfl
noncomputable def R19_4_7 : List It := .code (sndC (sndC (bodyC (bodyC (sndC (fstC (sndC (sndC (sndC (sndC (sndC (sndC (sndC (sndC (sndC (sndC (sndC (sndC (sndC b19))))))))))))))))))) :: K19_3
theorem eK19_4_7 : exitA 7 K19_4 = some R19_4_7 := rfl
theorem eK19_4_6 : exitA 6 K19_4 = some R19_3_6 := rfl
theorem inc_row {σ : St} {b k : Nat} {l : List Int} {i : Int} (h : Row σ b l) (hk : k < l.length) (hb : ∀ j, 0 ≤ at0 l j ∧ at0 l j ≤ i) (hi : i ≤ 100000) : cellsAt σ (.ptr b k) 1 = some [.int .i64 (at0 l k)] ∧ wrapA .i64 (at0 l k + 1) = at0 l k + 1 ∧
    ∃ σ', storeCellsA σ b k [.int .i64 (at0 l k + 1)] = some σ' ∧ Row σ' b (inc1 l k) ∧ σ'.n = σ.n ∧ ∀ c, c ≠ b → σ'.get c = σ.get c := by
  refine ⟨row_rd h hk, wrapA_id ?_ ?_, store_row h hk⟩
  · have := hb k; omega
  · have := hb k; omega
set_option maxHeartbeats 4000000 in
theorem a19 (n : Nat) (h1 : 1 ≤ n) (h6 : n ≤ 6) (V1 : AV) (b6 b7 : Nat) (hbb : b6 ≠ b7) : ∀ (m i : Nat) (cy ri cy' ri' : List Int) (σ : St), i + m = fac n → cy.length = n + 1 → ri.length = n + 1 → (∀ j, 0 ≤ at0 cy j ∧ at0 cy j ≤ i) → (∀ j, 0 ≤ at0 ri j ∧ at0 ri j ≤ i) → Row σ b6 cy → Row σ b7 ri → cntO n m i cy ri = some (cy', ri') →
    ∃ σ', exI TT (FI.of Try.f19 (TT.an 19)) K19_0 [(1, V1), (5, .int .i64 n), (6, .sl b6 0 (n + 1) (n + 1)), (7, .sl b7 0 (n + 1) (n + 1)), (8, .int .i64 i)] σ = exI TT (FI.of Try.f19 (TT.an 19)) R19_0_0 [(1, V1), (5, .int .i64 n), (6, .sl b6 0 (n + 1) (n + 1)), (7, .sl b7 0 (n + 1) (n + 1)), (8, .int .i64 (fac n : Nat)), (49, .bool false)] σ' ∧ Row σ' b6 cy' ∧ Row σ' b7 ri' := by
  have hfac := fac_le7 (n := n) (by omega)
  have eA := fun σ => c61 n (by omega) σ
  intro m
  induction m with
  | zero =>
    intro i cy ri cy' ri' σ hi hcy hri hbc hbr r6 r7 hc
    cases hc
    have hif : i = fac n := by omega
    subst hif
    refine ⟨σ, ?_, r6, r7⟩
    generalize fac n = fn at *
    rw [fi19, xl19_0]
    simp only [B19_0, b19, Try.f19, Option.getD, fstC, sndC, bodyC, thnC, elsC]
    simp (maxSteps := 1000000) (disch := omega) [xI_seq, xI_region, xI_ret, regA, regOps, runOps, opStep, wantedA, opA, evo, evos, calleeA, lk, nif_eq, putE, paramsE, valS, val2, keepE, restrict, finA, resA, binA, binInt, ofConst, ofConst1, loadA, TK.isAgg, asVar, unA, builtinA, lenOpA, lenA, indexAddrA, evPairs, storeA, AV.cellsOf, pairsOf, xI_nil, binBool, gcE, evOpt, runTr, pairsOk, pairOk, sameVal, AV.eqv, lastOf, lstAt, eqvs, boundA, indexA, regF, twoOf, prsOf, memI, runTrF, selF, runTr2, freshOp, scals, AV.scal, xI_block, xI_loopH, xI_condM, xI_exitM, xI_skip, xI_blk, exitA, List.getElem?_cons_zero, List.getElem?_cons_succ, List.getElem?_toArray, List.getElem?_nil, ileb_t, ileb_f, ieqb_t, ieqb_f, inB_t, wrapA_id, lp_read, ieqb_self, Nat.blt_eq, cond_true, cond_false, ty2, ty4, ty22, ty40, eK19_0_0, eK19_1_2, eK19_2_4, eK19_3_6, eK19_4_8, eK19_4_7, eK19_4_6, eA]
  | succ m ih =>
    intro i cy ri cy' ri' σ hi hcy hri hbc hbr r6 r7 hc
    rw [cntO] at hc
    have hlt : i < fac n := by omega
    have hp := ordAt_perm n (iotaF 0 n) i [] (iotaF_length _ _) hlt
    rw [List.nil_append] at hp
    have hl : (ordAt n (iotaF 0 n) i []).length = n := by rw [ordAt_length]; simp
    have ho := isO_perm h1 (by omega) hp
    have hOR : ordR n (i : Nat) = some (ordAt n (iotaF 0 n) i []) := by
      unfold ordR
      rw [if_pos ⟨inR_iff.2 ⟨by omega, by omega⟩, inR_iff.2 ⟨by omega, by rw [Int.toNat_natCast]; omega⟩⟩, Int.toNat_natCast, Int.toNat_natCast]
    have hOA := o30 n (i : Nat)
    rw [hOR] at hOA
    generalize ordAt n (iotaF 0 n) i [] = o at *
    obtain ⟨b1, σ1, c1, r1, o1, e1⟩ := FnO.row hOA (σ := σ) (args := [.int .i64 n, .int .i64 i]) rfl
    have hCY := o51 o o.length rfl (by omega)
    have hcr : cycR o = some (cyc o) := by unfold cycR; rw [if_pos ho]
    rw [hcr] at hCY
    obtain ⟨σ2, b2, bs2, c2, r2, o2, f2⟩ := hCY σ1 [.sl b1 0 o.length o.length] (mapO_cons (r1.frz rfl (Nat.le_refl _)) rfl)
    have r1a := r1.old o2
    have c3 := v45 o o.length rfl (by omega) σ2 [.sl b1 0 o.length o.length] (mapO_cons (r1a.frz rfl (Nat.le_refl _)) rfl)
    rw [if_pos ho] at c3
    cases hk : (Nat.ble (cyc o).length n && inR (ris o) 1 n) with
    | false => rw [hk] at hc; cases hc
    | true =>
      rw [hk] at hc
      simp only [] at hc
      simp only [Bool.and_eq_true] at hk
      have hk1 := Nat.le_of_ble_eq_true hk.1
      have hk2 := inR_iff.1 hk.2
      rw [hl] at c1 c2 c3
      have eC := eA σ
      clear hk
      generalize (cyc o).length = nc at *
      obtain ⟨nr, hnr⟩ : ∃ nr : Nat, ris o = nr := ⟨(ris o).toNat, by omega⟩
      rw [hnr] at hc c3 hk2
      rw [Int.toNat_natCast] at hc
      obtain ⟨g1, w1, σ3, s3, q3, n3, k3⟩ := inc_row (k := nc) ((r6.old o1).old o2) (by omega) hbc (by omega)
      have r7a := ((r7.old o1).old o2).keep (Nat.le_of_eq n3.symm) (k3 b7 (fun e => hbb e.symm))
      obtain ⟨g2, w2, σ4, s4, q4, n4, k4⟩ := inc_row (k := nr) r7a (by omega) hbr (by omega)
      have r6a := q3.keep (Nat.le_of_eq n4.symm) (k4 b6 hbb)
      obtain ⟨σ', z1, z2, z3⟩ := ih (i + 1) _ _ cy' ri' σ4 (by omega) (by rw [inc1_length]; exact hcy) (by rw [inc1_length]; exact hri) (by have := inc1_bound (k := nc) (by omega) hbc; simpa using this) (by have := inc1_bound (k := nr) (by omega) hbr; simpa using this) r6a q4 hc
      refine ⟨σ', ?_, z2, z3⟩
      rw [← z1]
      have hw : wrapA .i64 ((i : Int) + 1) = ((i + 1 : Nat) : Int) := by rw [wrapA_id (by omega) (by omega)]; omega
      generalize fac n = fn at *
      generalize i + 1 = i1 at *
      generalize hN1 : n + 1 = N1 at *
      clear ih hc z1 hOA hCY
      rw [fi19, xl19_0]
      simp only [B19_0, b19, Try.f19, Option.getD, fstC, sndC, bodyC, thnC, elsC]
      simp (maxSteps := 1000000) (disch := omega) [xI_seq, xI_region, xI_ret, regA, regOps, runOps, opStep, wantedA, opA, evo, evos, calleeA, lk, nif_eq, putE, paramsE, valS, val2, keepE, restrict, finA, resA, binA, binInt, ofConst, ofConst1, loadA, TK.isAgg, asVar, unA, builtinA, lenOpA, lenA, indexAddrA, evPairs, storeA, AV.cellsOf, pairsOf, xI_nil, binBool, gcE, evOpt, runTr, pairsOk, pairOk, sameVal, AV.eqv, lastOf, lstAt, eqvs, boundA, indexA, regF, twoOf, prsOf, memI, runTrF, selF, runTr2, freshOp, scals, AV.scal, xI_block, xI_loopH, xI_condM, xI_exitM, xI_skip, xI_blk, exitA, List.getElem?_cons_zero, List.getElem?_cons_succ, List.getElem?_toArray, List.getElem?_nil, ileb_t, ileb_f, ieqb_t, ieqb_f, inB_t, wrapA_id, lp_read, ieqb_self, Nat.blt_eq, cond_true, cond_false, ty2, ty4, ty22, ty40, eK19_0_0, eK19_1_2, eK19_2_4, eK19_3_6, eK19_4_8, eK19_4_7, eK19_4_6, eC, c1, c2, c3, g1, w1, s3, g2, w2, s4, hw]
set_option maxHeartbeats 4000000 in
theorem l19 (n : Nat) (h1 : 1 ≤ n) (h6 : n ≤ 6) (V1 : AV) (b6 b7 : Nat) (σ : St) (hl1 : (atL cyT n).length = n + 1) (hl2 : (atL riT n).length = n + 1) (r6 : Row σ b6 (atL cyT n)) (r7 : Row σ b7 (atL riT n)) : ∀ (m k : Nat), k + m = n + 1 →
    exI TT (FI.of Try.f19 (TT.an 19)) K19_1 [(1, V1), (5, .int .i64 n), (6, .sl b6 0 (n + 1) (n + 1)), (7, .sl b7 0 (n + 1) (n + 1)), (15, .int .i64 k)] σ = exI TT (FI.of Try.f19 (TT.an 19)) R19_1_2 [(1, V1), (5, .int .i64 n), (6, .sl b6 0 (n + 1) (n + 1)), (7, .sl b7 0 (n + 1) (n + 1)), (15, .int .i64 (n + 1 : Nat)), (108, .bool false)] σ := by
  intro m
  induction m with
  | zero =>
    intro k hk
    have hk' : k = n + 1 := by omega
    subst hk'
    rw [fi19, xl19_1]
    simp only [B19_1, b19, Try.f19, Option.getD, fstC, sndC, bodyC, thnC, elsC]
    simp (maxSteps := 1000000) (disch := omega) [xI_seq, xI_region, xI_ret, regA, regOps, runOps, opStep, wantedA, opA, evo, evos, calleeA, lk, nif_eq, putE, paramsE, valS, val2, keepE, restrict, finA, resA, binA, binInt, ofConst, ofConst1, loadA, TK.isAgg, asVar, unA, builtinA, lenOpA, lenA, indexAddrA, evPairs, storeA, AV.cellsOf, pairsOf, xI_nil, binBool, gcE, evOpt, runTr, pairsOk, pairOk, sameVal, AV.eqv, lastOf, lstAt, eqvs, boundA, indexA, regF, twoOf, prsOf, memI, runTrF, selF, runTr2, freshOp, scals, AV.scal, xI_block, xI_loopH, xI_condM, xI_exitM, xI_skip, xI_blk, exitA, List.getElem?_cons_zero, List.getElem?_cons_succ, List.getElem?_toArray, List.getElem?_nil, ileb_t, ileb_f, ieqb_t, ieqb_f, inB_t, wrapA_id, lp_read, ieqb_self, Nat.blt_eq, cond_true, cond_false, ty2, ty4, ty22, ty40, eK19_0_0, eK19_1_2, eK19_2_4, eK19_3_6, eK19_4_8, eK19_4_7, eK19_4_6]
  | succ m ih =>
    intro k hk
    rw [← ih (k + 1) (by omega)]
    have e1 := v62 h1 h6 (k := k) (by omega) σ
    have e2 := v63 h1 h6 (k := k) (by omega) σ
    have g1 := row_rd (i := k) r6 (by omega)
    have g2 := row_rd (i := k) r7 (by omega)
    have hw : wrapA .i64 ((k : Int) + 1) = ((k + 1 : Nat) : Int) := by rw [wrapA_id (by omega) (by omega)]; omega
    generalize at0 (atL cyT n) k = u at *
    generalize at0 (atL riT n) k = v at *
    generalize k + 1 = k1 at *
    generalize hN1 : n + 1 = N1 at *
    clear ih
    rw [fi19, xl19_1]
    simp only [B19_1, b19, Try.f19, Option.getD, fstC, sndC, bodyC, thnC, elsC]
    simp (maxSteps := 1000000) (disch := omega) [xI_seq, xI_region, xI_ret, regA, regOps, runOps, opStep, wantedA, opA, evo, evos, calleeA, lk, nif_eq, putE, paramsE, valS, val2, keepE, restrict, finA, resA, binA, binInt, ofConst, ofConst1, loadA, TK.isAgg, asVar, unA, builtinA, lenOpA, lenA, indexAddrA, evPairs, storeA, AV.cellsOf, pairsOf, xI_nil, binBool, gcE, evOpt, runTr, pairsOk, pairOk, sameVal, AV.eqv, lastOf, lstAt, eqvs, boundA, indexA, regF, twoOf, prsOf, memI, runTrF, selF, runTr2, freshOp, scals, AV.scal, xI_block, xI_loopH, xI_condM, xI_exitM, xI_skip, xI_blk, exitA, List.getElem?_cons_zero, List.getElem?_cons_succ, List.getElem?_toArray, List.getElem?_nil, ileb_t, ileb_f, ieqb_t, ieqb_f, inB_t, wrapA_id, lp_read, ieqb_self, Nat.blt_eq, cond_true, cond_false, ty2, ty4, ty22, ty40, eK19_0_0, eK19_1_2, eK19_2_4, eK19_3_6, eK19_4_8, eK19_4_7, eK19_4_6, e1, e2, g1, g2, hw]
set_option maxHeartbeats 1000000 in
theorem p19 (m : Nat) (h4 : m ≤ 4) (V21 V23 : AV) (σ : St) : ∀ (k i : Nat), i + k = m → 
    exI TT (FI.of Try.f19 (TT.an 19)) K19_2 [(20, .int .i64 m), (21, V21), (23, V23), (24, .int .i64 (m ^ i : Nat)), (25, .int .i64 i)] σ = exI TT (FI.of Try.f19 (TT.an 19)) R19_2_4 [(20, .int .i64 m), (21, V21), (23, V23), (24, .int .i64 (m ^ m : Nat)), (25, .int .i64 m), (167, .bool false)] σ := by
  intro k
  induction k with
  | zero =>
    intro i hi
    have : i = m := by omega
    subst this
    generalize i ^ i = q
    rw [fi19, xl19_2]
    simp only [B19_2, b19, Try.f19, Option.getD, fstC, sndC, bodyC, thnC, elsC]
    simp (maxSteps := 1000000) (disch := omega) [xI_seq, xI_region, xI_ret, regA, regOps, runOps, opStep, wantedA, opA, evo, evos, calleeA, lk, nif_eq, putE, paramsE, valS, val2, keepE, restrict, finA, resA, binA, binInt, ofConst, ofConst1, loadA, TK.isAgg, asVar, unA, builtinA, lenOpA, lenA, indexAddrA, evPairs, storeA, AV.cellsOf, pairsOf, xI_nil, binBool, gcE, evOpt, runTr, pairsOk, pairOk, sameVal, AV.eqv, lastOf, lstAt, eqvs, boundA, indexA, regF, twoOf, prsOf, memI, runTrF, selF, runTr2, freshOp, scals, AV.scal, xI_block, xI_loopH, xI_condM, xI_exitM, xI_skip, xI_blk, exitA, List.getElem?_cons_zero, List.getElem?_cons_succ, List.getElem?_toArray, List.getElem?_nil, ileb_t, ileb_f, ieqb_t, ieqb_f, inB_t, wrapA_id, lp_read, ieqb_self, Nat.blt_eq, cond_true, cond_false, ty2, ty4, ty22, ty40, eK19_0_0, eK19_1_2, eK19_2_4, eK19_3_6, eK19_4_8, eK19_4_7, eK19_4_6]
  | succ k ih =>
    intro i hi
    rw [← ih (i + 1) (by omega)]
    have hw : wrapA .i64 ((i : Int) + 1) = ((i + 1 : Nat) : Int) := by rw [wrapA_id (by omega) (by omega)]; omega
    have hp : m ^ (i + 1) ≤ 256 := by
      have h1 : m ^ (i + 1) ≤ 4 ^ (i + 1) := Nat.pow_le_pow_left h4 _
      have h2 : 4 ^ (i + 1) ≤ 4 ^ 4 := Nat.pow_le_pow_right (by decide) (by omega)
      omega
    have hw2 : wrapA .i64 (((m ^ i : Nat) : Int) * (m : Int)) = ((m ^ (i + 1) : Nat) : Int) := by
      have e : ((m ^ i : Nat) : Int) * (m : Int) = ((m ^ (i + 1) : Nat) : Int) := by rw [Nat.pow_succ, Int.natCast_mul]
      rw [e]; exact wrapA_id (by omega) (by omega)
    generalize m ^ (i + 1) = q1 at *
    generalize m ^ i = q at *
    generalize i + 1 = i1 at *
    clear ih
    rw [fi19, xl19_2]
    simp only [B19_2, b19, Try.f19, Option.getD, fstC, sndC, bodyC, thnC, elsC]
    simp (maxSteps := 1000000) (disch := omega) [xI_seq, xI_region, xI_ret, regA, regOps, runOps, opStep, wantedA, opA, evo, evos, calleeA, lk, nif_eq, putE, paramsE, valS, val2, keepE, restrict, finA, resA, binA, binInt, ofConst, ofConst1, loadA, TK.isAgg, asVar, unA, builtinA, lenOpA, lenA, indexAddrA, evPairs, storeA, AV.cellsOf, pairsOf, xI_nil, binBool, gcE, evOpt, runTr, pairsOk, pairOk, sameVal, AV.eqv, lastOf, lstAt, eqvs, boundA, indexA, regF, twoOf, prsOf, memI, runTrF, selF, runTr2, freshOp, scals, AV.scal, xI_block, xI_loopH, xI_condM, xI_exitM, xI_skip, xI_blk, exitA, List.getElem?_cons_zero, List.getElem?_cons_succ, List.getElem?_toArray, List.getElem?_nil, ileb_t, ileb_f, ieqb_t, ieqb_f, inB_t, wrapA_id, lp_read, ieqb_self, Nat.blt_eq, cond_true, cond_false, ty2, ty4, ty22, ty40, eK19_0_0, eK19_1_2, eK19_2_4, eK19_3_6, eK19_4_8, eK19_4_7, eK19_4_6, hw, hw2]
set_option maxHeartbeats 2000000 in
theorem d19 (m : Nat) (h1 : 1 ≤ m) (h4 : m ≤ 4) (V21 V23 V24 V26 : AV) : ∀ (k i x q : Nat) (cs : List Int) (b : Nat) (σ : St), i + k = m → x ≤ 256 → q = cs.length → q + k ≤ 100 → Row σ b cs →
    ∃ σ' b', exI TT (FI.of Try.f19 (TT.an 19)) K19_4 [(20, .int .i64 m), (21, V21), (23, V23), (24, V24), (26, V26), (27, .sl b 0 q q), (28, .int .i64 x), (29, .int .i64 i)] σ = exI TT (FI.of Try.f19 (TT.an 19)) R19_4_8 [(20, .int .i64 m), (21, V21), (23, V23), (24, V24), (26, V26), (27, .sl b' 0 (q + k) (q + k)), (28, .int .i64 (divs m k x : Nat)), (29, .int .i64 m), (182, .bool false)] σ' ∧ Row σ' b' (cs ++ digs m k x) ∧ σ.n ≤ σ'.n ∧ ∀ c, c ≠ b → c < σ.n → σ'.get c = σ.get c := by
  intro k
  induction k with
  | zero =>
    intro i x q cs b σ hi hx hq hqk hr
    have : i = m := by omega
    subst this
    refine ⟨σ, b, ?_, by simpa [digs] using hr, Nat.le_refl _, fun _ _ _ => rfl⟩
    rw [fi19, xl19_4]
    simp only [B19_4, b19, Try.f19, Option.getD, fstC, sndC, bodyC, thnC, elsC]
    simp (maxSteps := 1000000) (disch := omega) [xI_seq, xI_region, xI_ret, regA, regOps, runOps, opStep, wantedA, opA, evo, evos, calleeA, lk, nif_eq, putE, paramsE, valS, val2, keepE, restrict, finA, resA, binA, binInt, ofConst, ofConst1, loadA, TK.isAgg, asVar, unA, builtinA, lenOpA, lenA, indexAddrA, evPairs, storeA, AV.cellsOf, pairsOf, xI_nil, binBool, gcE, evOpt, runTr, pairsOk, pairOk, sameVal, AV.eqv, lastOf, lstAt, eqvs, boundA, indexA, regF, twoOf, prsOf, memI, runTrF, selF, runTr2, freshOp, scals, AV.scal, xI_block, xI_loopH, xI_condM, xI_exitM, xI_skip, xI_blk, exitA, List.getElem?_cons_zero, List.getElem?_cons_succ, List.getElem?_toArray, List.getElem?_nil, ileb_t, ileb_f, ieqb_t, ieqb_f, inB_t, wrapA_id, lp_read, ieqb_self, Nat.blt_eq, cond_true, cond_false, ty2, ty4, ty22, ty40, eK19_0_0, eK19_1_2, eK19_2_4, eK19_3_6, eK19_4_8, eK19_4_7, eK19_4_6]
    rfl
  | succ k ih =>
    intro i x q cs b σ hi hx hq hqk hr
    have hbl := hr.lt
    have e2 := fun σ => bs22 σ ((modN x m : Nat) : Int)
    obtain ⟨σ2, c2, r2, n2, o2⟩ := append_row (T := TT) (x := ((modN x m : Nat) : Int)) ty22 ty2 hr hq (by omega)
    have hdx : divN x m ≤ 256 := Nat.le_trans (Nat.div_le_self _ _) hx
    obtain ⟨σ', b', k1, k2, k3, k4⟩ := ih (i + 1) (divN x m) (q + 1) (cs ++ [((modN x m : Nat) : Int)]) _ σ2 (by omega) hdx (by simp [hq]) (by omega) r2
    refine ⟨σ', b', ?_, by simpa [digs] using k2, by omega, fun c hc hcn => ?_⟩
    · rw [show q + (k + 1) = q + 1 + k by omega]
      show _ = exI TT (FI.of Try.f19 (TT.an 19)) R19_4_8 [(20, .int .i64 m), (21, V21), (23, V23), (24, V24), (26, V26), (27, .sl b' 0 (q + 1 + k) (q + 1 + k)), (28, .int .i64 (divs m k (divN x m) : Nat)), (29, .int .i64 m), (182, .bool false)] σ'
      rw [← k1]
      have hw : wrapA .i64 ((i : Int) + 1) = ((i + 1 : Nat) : Int) := by rw [wrapA_id (by omega) (by omega)]; omega
      have w1 : (x : Int).tmod (m : Int) = ((modN x m : Nat) : Int) := rfl
      have w2 : (x : Int) % (m : Int) = ((modN x m : Nat) : Int) := rfl
      have w3 : (x : Int).tdiv (m : Int) = ((divN x m : Nat) : Int) := rfl
      have w4 : (x : Int) / (m : Int) = ((divN x m : Nat) : Int) := rfl
      have w5 : wrapA .i64 ((divN x m : Nat) : Int) = ((divN x m : Nat) : Int) := wrapA_id (by omega) (by omega)
      generalize divN x m = dx at *
      generalize modN x m = mx at *
      generalize i + 1 = i1 at *
      clear ih k1
      rw [fi19, xl19_4]
      simp only [B19_4, b19, Try.f19, Option.getD, fstC, sndC, bodyC, thnC, elsC]
      simp (maxSteps := 1000000) (disch := omega) [xI_seq, xI_region, xI_ret, regA, regOps, runOps, opStep, wantedA, opA, evo, evos, calleeA, lk, nif_eq, putE, paramsE, valS, val2, keepE, restrict, finA, resA, binA, binInt, ofConst, ofConst1, loadA, TK.isAgg, asVar, unA, builtinA, lenOpA, lenA, indexAddrA, evPairs, storeA, AV.cellsOf, pairsOf, xI_nil, binBool, gcE, evOpt, runTr, pairsOk, pairOk, sameVal, AV.eqv, lastOf, lstAt, eqvs, boundA, indexA, regF, twoOf, prsOf, memI, runTrF, selF, runTr2, freshOp, scals, AV.scal, xI_block, xI_loopH, xI_condM, xI_exitM, xI_skip, xI_blk, exitA, List.getElem?_cons_zero, List.getElem?_cons_succ, List.getElem?_toArray, List.getElem?_nil, ileb_t, ileb_f, ieqb_t, ieqb_f, inB_t, wrapA_id, lp_read, ieqb_self, Nat.blt_eq, cond_true, cond_false, ty2, ty4, ty22, ty40, eK19_0_0, eK19_1_2, eK19_2_4, eK19_3_6, eK19_4_8, eK19_4_7, eK19_4_6, e2, c2, hw, w1, w2, w3, w4, w5]
    · rw [k4 c (by omega) (by omega), o2 c hc hcn]
set_option maxHeartbeats 4000000 in
theorem q19 (m : Nat) (h1 : 1 ≤ m) (h4 : m ≤ 4) (V21 : AV) (b : Nat) (A : Nat) (hA : A ≤ 256) (fm : Nat) (hfm : fm = fac m) : ∀ (k x : Nat) (own own' : List Int) (σ : St), x + k = A → own.length = fm → (∀ j, 0 ≤ at0 own j ∧ at0 own j ≤ x) → Row σ b own → ownN m k x own = some own' →
    ∃ σ', exI TT (FI.of Try.f19 (TT.an 19)) K19_3 [(20, .int .i64 m), (21, V21), (23, .sl b 0 fm fm), (24, .int .i64 A), (26, .int .i64 x)] σ = exI TT (FI.of Try.f19 (TT.an 19)) R19_3_6 [(20, .int .i64 m), (21, V21), (23, .sl b 0 fm fm), (24, .int .i64 A), (26, .int .i64 A), (175, .bool false)] σ' ∧ Row σ' b own' ∧ σ.n ≤ σ'.n ∧ ∀ c, c ≠ b → c < σ.n → σ'.get c = σ.get c := by
  intro k
  induction k with
  | zero =>
    intro x own own' σ hx hl hb hr ho
    cases ho
    have : x = A := by omega
    subst this
    refine ⟨σ, ?_, hr, Nat.le_refl _, fun _ _ _ => rfl⟩
    rw [fi19, xl19_3]
    simp only [B19_3, b19, Try.f19, Option.getD, fstC, sndC, bodyC, thnC, elsC]
    simp (maxSteps := 1000000) (disch := omega) [xI_seq, xI_region, xI_ret, regA, regOps, runOps, opStep, wantedA, opA, evo, evos, calleeA, lk, nif_eq, putE, paramsE, valS, val2, keepE, restrict, finA, resA, binA, binInt, ofConst, ofConst1, loadA, TK.isAgg, asVar, unA, builtinA, lenOpA, lenA, indexAddrA, evPairs, storeA, AV.cellsOf, pairsOf, xI_nil, binBool, gcE, evOpt, runTr, pairsOk, pairOk, sameVal, AV.eqv, lastOf, lstAt, eqvs, boundA, indexA, regF, twoOf, prsOf, memI, runTrF, selF, runTr2, freshOp, scals, AV.scal, xI_block, xI_loopH, xI_condM, xI_exitM, xI_skip, xI_blk, exitA, List.getElem?_cons_zero, List.getElem?_cons_succ, List.getElem?_toArray, List.getElem?_nil, ileb_t, ileb_f, ieqb_t, ieqb_f, inB_t, wrapA_id, lp_read, ieqb_self, Nat.blt_eq, cond_true, cond_false, ty2, ty4, ty22, ty40, eK19_0_0, eK19_1_2, eK19_2_4, eK19_3_6, eK19_4_8, eK19_4_7, eK19_4_6]
  | succ k ih =>
    intro x own own' σ hx hl hb hr ho
    rw [ownN] at ho
    have hbl := hr.lt
    obtain ⟨σ1, b1, c1, r1, n1, o1⟩ := d19 m h1 h4 V21 (.sl b 0 fm fm) (.int .i64 A) (.int .i64 x) m 0 x 0 [] σ.n (σ.push ⟨ints [], 1, false⟩) (by omega) (by omega) rfl (by omega) Row.push
    rw [List.nil_append] at r1
    rw [Nat.zero_add] at c1
    simp only [n_push] at n1 o1
    have hra := hr.keep (σ' := σ1) (by omega) (by rw [o1 b (by omega) (by omega), get_push_lt hbl])
    have hin := digs_in (show 0 < m by omega) m x
    have hNB := o33 (digs m m x) (by rw [digs_length]; omega)
    have hnr : naiveR (digs m m x) = some (naive (digs m m x) 0 (iotaF 0 m)) := by
      unfold naiveR
      rw [digs_length]
      rw [if_pos ⟨inR_iff.2 ⟨by omega, by omega⟩, List.all_eq_true.2 fun c hc => inR_iff.2 (by have := hin c hc; omega)⟩]
    rw [hnr] at hNB
    have hdl := digs_length m m x
    cases hio : isO (naive (digs m m x) 0 (iotaF 0 m)) with
    | false => rw [hio] at ho; cases ho
    | true =>
      rw [hio] at ho
      simp only [] at ho
      have hbu : bump m (digs m m x) own = inc1 own (rankG (naive (digs m m x) 0 (iotaF 0 m)) m 0) := rfl
      rw [hbu] at ho
      have hnl : (naive (digs m m x) 0 (iotaF 0 m)).length = m := by rw [naive_length, iotaF_length]
      generalize naive (digs m m x) 0 (iotaF 0 m) = nv at *
      obtain ⟨b2, σ2, c2, r2, o2, e2⟩ := FnO.row hNB (σ := σ1) (args := [.sl b1 0 (digs m m x).length (digs m m x).length]) (mapO_cons (r1.frz rfl (Nat.le_refl _)) rfl)
      have c3 := v46 nv nv.length rfl (by omega) σ2 [.sl b2 0 nv.length nv.length] (mapO_cons (r2.frz rfl (Nat.le_refl _)) rfl)
      rw [if_pos hio] at c3
      rw [hdl] at c2
      rw [hnl] at c2 c3
      have hrk := rankG_lt nv m 0
      generalize rankG nv m 0 = rk at *
      obtain ⟨g3, w3, σ3, s3, q3, n3, k3⟩ := inc_row (k := rk) (hra.old o2) (by omega) hb (by omega)
      obtain ⟨σ', z1, z2, z3, z4⟩ := ih (x + 1) _ own' σ3 (by omega) (by rw [inc1_length]; exact hl) (by have := inc1_bound (k := rk) (by omega) hb; simpa using this) q3 ho
      have h21 := o2.1
      refine ⟨σ', ?_, z2, by omega, fun c hc hcn => ?_⟩
      · rw [← z1]
        have hw : wrapA .i64 ((x : Int) + 1) = ((x + 1 : Nat) : Int) := by rw [wrapA_id (by omega) (by omega)]; omega
        have e15 := fun σ => bn22 σ
        generalize x + 1 = x1 at *
        simp only [show ((0 : Nat) : Int) = 0 from rfl] at c1
        generalize divs m m x = y at *
        clear ih ho z1 hNB
        rw [fi19] at c1 ⊢
        rw [xl19_3]
        simp only [B19_3, b19, Try.f19, Option.getD, fstC, sndC, bodyC, thnC, elsC]
        simp (maxSteps := 1000000) (disch := omega) [xI_seq, xI_region, xI_ret, regA, regOps, runOps, opStep, wantedA, opA, evo, evos, calleeA, lk, nif_eq, putE, paramsE, valS, val2, keepE, restrict, finA, resA, binA, binInt, ofConst, ofConst1, loadA, TK.isAgg, asVar, unA, builtinA, lenOpA, lenA, indexAddrA, evPairs, storeA, AV.cellsOf, pairsOf, xI_nil, binBool, gcE, evOpt, runTr, pairsOk, pairOk, sameVal, AV.eqv, lastOf, lstAt, eqvs, boundA, indexA, regF, twoOf, prsOf, memI, runTrF, selF, runTr2, freshOp, scals, AV.scal, xI_block, xI_loopH, xI_condM, xI_exitM, xI_skip, xI_blk, exitA, List.getElem?_cons_zero, List.getElem?_cons_succ, List.getElem?_toArray, List.getElem?_nil, ileb_t, ileb_f, ieqb_t, ieqb_f, inB_t, wrapA_id, lp_read, ieqb_self, Nat.blt_eq, cond_true, cond_false, ty2, ty4, ty22, ty40, eK19_0_0, eK19_1_2, eK19_2_4, eK19_3_6, eK19_4_8, eK19_4_7, eK19_4_6, e15]
        refine c1.trans ?_
        simp only [R19_4_8, b19, Try.f19, Option.getD, fstC, sndC, bodyC, thnC, elsC]
        simp (maxSteps := 1000000) (disch := omega) [xI_seq, xI_region, xI_ret, regA, regOps, runOps, opStep, wantedA, opA, evo, evos, calleeA, lk, nif_eq, putE, paramsE, valS, val2, keepE, restrict, finA, resA, binA, binInt, ofConst, ofConst1, loadA, TK.isAgg, asVar, unA, builtinA, lenOpA, lenA, indexAddrA, evPairs, storeA, AV.cellsOf, pairsOf, xI_nil, binBool, gcE, evOpt, runTr, pairsOk, pairOk, sameVal, AV.eqv, lastOf, lstAt, eqvs, boundA, indexA, regF, twoOf, prsOf, memI, runTrF, selF, runTr2, freshOp, scals, AV.scal, xI_block, xI_loopH, xI_condM, xI_exitM, xI_skip, xI_blk, exitA, List.getElem?_cons_zero, List.getElem?_cons_succ, List.getElem?_toArray, List.getElem?_nil, ileb_t, ileb_f, ieqb_t, ieqb_f, inB_t, wrapA_id, lp_read, ieqb_self, Nat.blt_eq, cond_true, cond_false, ty2, ty4, ty22, ty40, eK19_0_0, eK19_1_2, eK19_2_4, eK19_3_6, eK19_4_8, eK19_4_7, eK19_4_6, c2, c3, g3, w3, s3, hw]
      · rw [z4 c hc (by omega), k3 c hc, o2.2 c (by omega), o1 c (by omega) (by omega), get_push_lt hcn]
set_option maxHeartbeats 8000000 in
theorem w19 (xs ys : List Nat) (hx : ∀ x ∈ xs, x < 256) (hy : ∀ x ∈ ys, x < 256) : FnV TT 19 [.lst xs.length (byts xs), .lst ys.length (byts ys)] (.bool true) := by
  have hL : ∀ σ, callI TT 55 [.lst xs.length (byts xs), .lst ys.length (byts ys)] σ = some (.bool (decide (1048576 < xs.length) || decide (1048576 < ys.length)), σ) := fun σ => v55 _ _ _ _ σ _ rfl
  refine FnV.mk fn19 rfl md19 ?_ (fun _ => rfl) rfl
  cases hb : (decide (1048576 < xs.length) || decide (1048576 < ys.length)) with
  | true =>
    rw [hb] at hL
    refine ⟨⟨[], 0⟩, ?_⟩
    rw [fi19]
    simp (maxSteps := 1000000) (disch := omega) [xI_seq, xI_region, xI_ret, regA, regOps, runOps, opStep, wantedA, opA, evo, evos, calleeA, lk, nif_eq, putE, paramsE, valS, val2, keepE, restrict, finA, resA, binA, binInt, ofConst, ofConst1, loadA, TK.isAgg, asVar, unA, builtinA, lenOpA, lenA, indexAddrA, evPairs, storeA, AV.cellsOf, pairsOf, xI_nil, binBool, gcE, evOpt, runTr, pairsOk, pairOk, sameVal, AV.eqv, lastOf, lstAt, eqvs, boundA, indexA, regF, twoOf, prsOf, memI, runTrF, selF, runTr2, freshOp, scals, AV.scal, xI_block, xI_loopH, xI_condM, xI_exitM, xI_skip, xI_blk, exitA, List.getElem?_cons_zero, List.getElem?_cons_succ, List.getElem?_toArray, List.getElem?_nil, ileb_t, ileb_f, ieqb_t, ieqb_f, inB_t, wrapA_id, lp_read, ieqb_self, Nat.blt_eq, cond_true, cond_false, ty2, ty4, ty22, ty40, eK19_0_0, eK19_1_2, eK19_2_4, eK19_3_6, eK19_4_8, eK19_4_7, eK19_4_6, hL]
  | false =>
    rw [hb] at hL
    clear hb
    obtain ⟨n0, hn0, vn⟩ := v56 xs hx 0 6 (by omega) (by omega)
    have e0 := fun σ => vn σ [.lst xs.length (byts xs), .int .i64 0, .int .i64 6] rfl
    obtain ⟨m0, hm0, vm⟩ := v56 ys hy 0 4 (by omega) (by omega)
    have e1 := fun σ => vm σ [.lst ys.length (byts ys), .int .i64 0, .int .i64 4] rfl
    obtain ⟨n, hn⟩ : ∃ n, n = n0 + 1 := ⟨_, rfl⟩
    obtain ⟨m, hm⟩ : ∃ m, m = m0 + 1 := ⟨_, rfl⟩
    have hw0 : wrapA .i64 (1 + (n0 : Int)) = (n : Int) := by rw [wrapA_id (by omega) (by omega)]; omega
    have hw1 : wrapA .i64 (1 + (m0 : Int)) = (m : Int) := by rw [wrapA_id (by omega) (by omega)]; omega
    have hw2 : wrapA .i64 ((n : Int) + 1) = ((n + 1 : Nat) : Int) := by rw [wrapA_id (by omega) (by omega)]; omega
    have h1 : 1 ≤ n := by omega
    have h6 : n ≤ 6 := by omega
    have m1 : 1 ≤ m := by omega
    have m4 : m ≤ 4 := by omega
    clear hn hm hn0 hm0 vn vm
    obtain ⟨hc, hl1, hl2⟩ := cnt_all h1 h6
    have k1 := mk22 (⟨[], 0⟩ : St) (n + 1) (by omega)
    have k2 := mk22 ((⟨[], 0⟩ : St).push ⟨ints (List.replicate (n + 1) 0), 1, false⟩) (n + 1) (by omega)
    have r0 : Row (((⟨[], 0⟩ : St).push ⟨ints (List.replicate (n + 1) 0), 1, false⟩).push ⟨ints (List.replicate (n + 1) 0), 1, false⟩) 0 (List.replicate (n + 1) 0) := Row.push.pushed
    have r1 : Row (((⟨[], 0⟩ : St).push ⟨ints (List.replicate (n + 1) 0), 1, false⟩).push ⟨ints (List.replicate (n + 1) 0), 1, false⟩) 1 (List.replicate (n + 1) 0) := Row.push
    obtain ⟨σ3, c3, q3, q4⟩ := a19 n h1 h6 (.lst ys.length (byts ys)) 0 1 (by decide) (fac n) 0 _ _ _ _ _ (by omega) (by simp) (by simp) (fun j => by rw [at0_rep]; exact ⟨Int.le_refl _, Int.le_refl _⟩) (fun j => by rw [at0_rep]; exact ⟨Int.le_refl _, Int.le_refl _⟩) r0 r1 hc
    have c4 := l19 n h1 h6 (.lst ys.length (byts ys)) 0 1 σ3 hl1 hl2 q3 q4 (n + 1) 0 (by omega)
    -- naive shuffles
    obtain ⟨hown, hmm⟩ := own_all m1 m4
    have hNC := o35 m
    have hncr : ncR m = some (ncL m) := by unfold ncR; rw [if_pos (inR_iff.2 ⟨by omega, by omega⟩), Int.toNat_natCast]; rfl
    have hncl : (ncL m).length = fac m := by unfold ncL; rw [ncG_length, List.length_replicate]
    rw [hncr] at hNC
    obtain ⟨b5, σ5, c5, r5, o5, e5⟩ := FnO.row hNC (σ := σ3) (args := [.int .i64 m]) rfl
    have c6 := c61 m (by omega) σ5
    have hfm := fac_le7 (n := m) (by omega)
    have k7 := mk22 σ5 (fac m) (by omega)
    have c8 := p19 m m4 (.sl b5 0 (fac m) (fac m)) (.sl σ5.n 0 (fac m) (fac m)) (σ5.push ⟨ints (List.replicate (fac m) 0), 1, false⟩) m 0 (by omega)
    obtain ⟨σ9, c9, r9, n9, o9⟩ := q19 m m1 m4 (.sl b5 0 (fac m) (fac m)) σ5.n (m ^ m) hmm (fac m) rfl (m ^ m) 0 (List.replicate (fac m) 0) (ncL m) (σ5.push ⟨ints (List.replicate (fac m) 0), 1, false⟩) (by omega) (by simp) (fun j => by rw [at0_rep]; exact ⟨Int.le_refl _, Int.le_refl _⟩) Row.push hown
    have hb5 := r5.lt
    have r5a : Row σ9 b5 (ncL m) := r5.keep (by simp only [n_push] at n9; omega) (by rw [o9 b5 (by omega) (by simp only [n_push]; omega), get_push_lt hb5])
    have c10 := v60 (ncL m) (ncL m) (fac m) (fac m) hncl.symm hncl.symm (by omega) σ9 [.sl σ5.n 0 (fac m) (fac m), .sl b5 0 (fac m) (fac m)] (mapO_cons (r9.frz hncl.symm (Nat.le_refl _)) (mapO_cons (r5a.frz hncl.symm (Nat.le_refl _)) rfl))
    simp only [decide_true] at c10
    rw [hncl] at c5
    refine ⟨σ9, ?_⟩
    simp only [show ((0 : Nat) : Int) = 0 from rfl, Nat.pow_zero, show ((1 : Nat) : Int) = 1 from rfl] at c3 c4 c8 c9
    clear hNC hc hown q3 q4 r0 r1 hncr hncl hx hy r5 r5a r9
    simp only [show (⟨[], 0⟩ : St).n = 0 from rfl, n_push] at k1 k2
    generalize fac n = fn at *
    generalize fac m = fm at *
    generalize n + 1 = N1 at *
    generalize m ^ m = A at *
    rw [fi19] at c3 c4 c8 c9 ⊢
    simp (maxSteps := 1000000) (disch := omega) [xI_seq, xI_region, xI_ret, regA, regOps, runOps, opStep, wantedA, opA, evo, evos, calleeA, lk, nif_eq, putE, paramsE, valS, val2, keepE, restrict, finA, resA, binA, binInt, ofConst, ofConst1, loadA, TK.isAgg, asVar, unA, builtinA, lenOpA, lenA, indexAddrA, evPairs, storeA, AV.cellsOf, pairsOf, xI_nil, binBool, gcE, evOpt, runTr, pairsOk, pairOk, sameVal, AV.eqv, lastOf, lstAt, eqvs, boundA, indexA, regF, twoOf, prsOf, memI, runTrF, selF, runTr2, freshOp, scals, AV.scal, xI_block, xI_loopH, xI_condM, xI_exitM, xI_skip, xI_blk, exitA, List.getElem?_cons_zero, List.getElem?_cons_succ, List.getElem?_toArray, List.getElem?_nil, ileb_t, ileb_f, ieqb_t, ieqb_f, inB_t, wrapA_id, lp_read, ieqb_self, Nat.blt_eq, cond_true, cond_false, ty2, ty4, ty22, ty40, eK19_0_0, eK19_1_2, eK19_2_4, eK19_3_6, eK19_4_8, eK19_4_7, eK19_4_6, hL, e0, hw0, hw2, k1, k2, n_push]
    refine c3.trans ?_
    simp only [R19_0_0, b19, Try.f19, Option.getD, fstC, sndC, bodyC, thnC, elsC]
    simp (maxSteps := 1000000) (disch := omega) [xI_seq, xI_region, xI_ret, regA, regOps, runOps, opStep, wantedA, opA, evo, evos, calleeA, lk, nif_eq, putE, paramsE, valS, val2, keepE, restrict, finA, resA, binA, binInt, ofConst, ofConst1, loadA, TK.isAgg, asVar, unA, builtinA, lenOpA, lenA, indexAddrA, evPairs, storeA, AV.cellsOf, pairsOf, xI_nil, binBool, gcE, evOpt, runTr, pairsOk, pairOk, sameVal, AV.eqv, lastOf, lstAt, eqvs, boundA, indexA, regF, twoOf, prsOf, memI, runTrF, selF, runTr2, freshOp, scals, AV.scal, xI_block, xI_loopH, xI_condM, xI_exitM, xI_skip, xI_blk, exitA, List.getElem?_cons_zero, List.getElem?_cons_succ, List.getElem?_toArray, List.getElem?_nil, ileb_t, ileb_f, ieqb_t, ieqb_f, inB_t, wrapA_id, lp_read, ieqb_self, Nat.blt_eq, cond_true, cond_false, ty2, ty4, ty22, ty40, eK19_0_0, eK19_1_2, eK19_2_4, eK19_3_6, eK19_4_8, eK19_4_7, eK19_4_6]
    refine c4.trans ?_
    simp only [R19_1_2, b19, Try.f19, Option.getD, fstC, sndC, bodyC, thnC, elsC]
    simp (maxSteps := 1000000) (disch := omega) [xI_seq, xI_region, xI_ret, regA, regOps, runOps, opStep, wantedA, opA, evo, evos, calleeA, lk, nif_eq, putE, paramsE, valS, val2, keepE, restrict, finA, resA, binA, binInt, ofConst, ofConst1, loadA, TK.isAgg, asVar, unA, builtinA, lenOpA, lenA, indexAddrA, evPairs, storeA, AV.cellsOf, pairsOf, xI_nil, binBool, gcE, evOpt, runTr, pairsOk, pairOk, sameVal, AV.eqv, lastOf, lstAt, eqvs, boundA, indexA, regF, twoOf, prsOf, memI, runTrF, selF, runTr2, freshOp, scals, AV.scal, xI_block, xI_loopH, xI_condM, xI_exitM, xI_skip, xI_blk, exitA, List.getElem?_cons_zero, List.getElem?_cons_succ, List.getElem?_toArray, List.getElem?_nil, ileb_t, ileb_f, ieqb_t, ieqb_f, inB_t, wrapA_id, lp_read, ieqb_self, Nat.blt_eq, cond_true, cond_false, ty2, ty4, ty22, ty40, eK19_0_0, eK19_1_2, eK19_2_4, eK19_3_6, eK19_4_8, eK19_4_7, eK19_4_6, e1, hw1, c5, c6, k7]
    refine c8.trans ?_
    simp only [R19_2_4, b19, Try.f19, Option.getD, fstC, sndC, bodyC, thnC, elsC]
    simp (maxSteps := 1000000) (disch := omega) [xI_seq, xI_region, xI_ret, regA, regOps, runOps, opStep, wantedA, opA, evo, evos, calleeA, lk, nif_eq, putE, paramsE, valS, val2, keepE, restrict, finA, resA, binA, binInt, ofConst, ofConst1, loadA, TK.isAgg, asVar, unA, builtinA, lenOpA, lenA, indexAddrA, evPairs, storeA, AV.cellsOf, pairsOf, xI_nil, binBool, gcE, evOpt, runTr, pairsOk, pairOk, sameVal, AV.eqv, lastOf, lstAt, eqvs, boundA, indexA, regF, twoOf, prsOf, memI, runTrF, selF, runTr2, freshOp, scals, AV.scal, xI_block, xI_loopH, xI_condM, xI_exitM, xI_skip, xI_blk, exitA, List.getElem?_cons_zero, List.getElem?_cons_succ, List.getElem?_toArray, List.getElem?_nil, ileb_t, ileb_f, ieqb_t, ieqb_f, inB_t, wrapA_id, lp_read, ieqb_self, Nat.blt_eq, cond_true, cond_false, ty2, ty4, ty22, ty40, eK19_0_0, eK19_1_2, eK19_2_4, eK19_3_6, eK19_4_8, eK19_4_7, eK19_4_6]
    refine c9.trans ?_
    simp only [R19_3_6, b19, Try.f19, Option.getD, fstC, sndC, bodyC, thnC, elsC]
    simp (maxSteps := 1000000) (disch := omega) [xI_seq, xI_region, xI_ret, regA, regOps, runOps, opStep, wantedA, opA, evo, evos, calleeA, lk, nif_eq, putE, paramsE, valS, val2, keepE, restrict, finA, resA, binA, binInt, ofConst, ofConst1, loadA, TK.isAgg, asVar, unA, builtinA, lenOpA, lenA, indexAddrA, evPairs, storeA, AV.cellsOf, pairsOf, xI_nil, binBool, gcE, evOpt, runTr, pairsOk, pairOk, sameVal, AV.eqv, lastOf, lstAt, eqvs, boundA, indexA, regF, twoOf, prsOf, memI, runTrF, selF, runTr2, freshOp, scals, AV.scal, xI_block, xI_loopH, xI_condM, xI_exitM, xI_skip, xI_blk, exitA, List.getElem?_cons_zero, List.getElem?_cons_succ, List.getElem?_toArray, List.getElem?_nil, ileb_t, ileb_f, ieqb_t, ieqb_f, inB_t, wrapA_id, lp_read, ieqb_self, Nat.blt_eq, cond_true, cond_false, ty2, ty4, ty22, ty40, eK19_0_0, eK19_1_2, eK19_2_4, eK19_3_6, eK19_4_8, eK19_4_7, eK19_4_6, c10]

end Go.Proofs.Ytaniaeefijgaiaa
