/- Combined streams: the plain law. Nothing is claimed here; no condition. -/
import Derived.Test.YthkdbkjkccogfaaDoorXf
namespace Go.Proofs.YthkdbkjkccogfaaDoor
open Go Go.Abs Go.Wd
set_option linter.unusedSimpArgs false
set_option linter.unusedVariables false
def stO (q : Nat × Nat × Nat) : List UInt8 := outR q.1 q.2.1 32 q.2.2
def Qgd (Q : List (Nat × Nat × Nat)) : Prop := ∀ q ∈ Q, 1 ≤ q.1 ∧ q.1 ≤ 3 ∧ q.2.1 < 2 ^ q.1 ∧ q.2.2 < 2 ^ q.1
theorem Qgd.strm {Q : List (Nat × Nat × Nat)} (h : Qgd Q) : Strm (Q.map stO) := fun x hx => by
  obtain ⟨q, _, rfl⟩ := List.mem_map.1 hx
  exact ⟨outR_length _ _ _ _, outR_bits _ _ _ _⟩
theorem num_congr {s s' : Nat → Bool} : ∀ n, (∀ i, i < n → s i = s' i) → num s n = num s' n
  | 0, _ => rfl
  | n + 1, h => by rw [num, num, num_congr n (fun i hi => h i (by omega)), h n (by omega)]
theorem comb_law {tb : List UInt8} {Q : List (Nat × Nat × Nat)} (hT : Tbl Q.length tb) (hQ : Qgd Q) : bmL (cbL tb (Q.map stO)) ≤ cwV tb (Q.map (·.1)) := by
  obtain ⟨s, hs⟩ : ∃ s : Nat → Nat → Bool, s = fun i t => match Q[i]? with | some q => regS q.1 q.2.1 q.2.2 t | none => false := ⟨_, rfl⟩
  have hdim : ∀ i, Dim (wsF (Q.map (·.1)) i) (s i) := by
    intro i
    cases hq : Q[i]? with
    | none =>
      have h1 : wsF (Q.map (·.1)) i = 0 := by simp [wsF, List.getD_eq_getElem?_getD, hq]
      have h2 : s i = fun _ => false := by rw [hs]; funext t; simp [hq]
      rw [h1, h2]; exact Dim.none
    | some q =>
      obtain ⟨w1, w2, w3, w4⟩ := hQ q (List.mem_of_getElem? hq)
      have h1 : wsF (Q.map (·.1)) i = q.1 := by simp [wsF, List.getD_eq_getElem?_getD, hq]
      have h2 : s i = regS q.1 q.2.1 q.2.2 := by rw [hs]; funext t; simp [hq]
      rw [h1, h2]; exact gen_dim w1 (fun n => regS_gen (by omega) w3 w4 n)
  have hd := ev_dim hdim Q.length (nf Q.length (bitf tb))
  obtain ⟨k, hk, c, hc⟩ := dim_gen hd
  have hout : ∀ t, t < 32 → ev Q.length (nf Q.length (bitf tb)) (fun i => s i t) = bitf (cbL tb (Q.map stO)) t := by
    intro t ht
    rw [ev_nf, cbL, bitf_txt ht, List.length_map]
    congr 1
    apply num_congr
    intro i hi
    have hq : Q[i]? = some Q[i] := List.getElem?_eq_getElem hi
    have e1 : s i t = regS Q[i].1 Q[i].2.1 Q[i].2.2 t := by rw [hs]; simp [hq]
    rw [e1, sL_get (x := stO Q[i]) (by rw [List.getElem?_map, hq]; rfl), stO, bitf_out ht]
  have hl : (cbL tb (Q.map stO)).length = 32 := txt_length _ _
  have h1 := bmL_lst (cbL tb (Q.map stO))
  rw [hl] at h1
  have h2 := h1.le ((hc 32).congr hout)
  have h3 : cwV tb (Q.map (·.1)) = bd (wsF (Q.map (·.1))) Q.length (nf Q.length (bitf tb)) := by
    rw [cwV, List.length_map]; exact bsum_bd _ _ _
  omega
end Go.Proofs.YthkdbkjkccogfaaDoor
