/- CombinedWidth: a range over a text, walked. Nothing is claimed here; no condition. -/
import Derived.Shelf.Abstract
import Derived.WalkKit
import Derived.OwnWalkIn
import Derived.TacticsInMore
import Derived.RegionIn
import Derived.Shelf.RegionOpen
import Derived.LoopNIn
import Derived.LoopIn
import Derived.Laws.RangeString
import Derived.RangeFuncBox
import Derived.RangeFuncNested
import Derived.RangeFuncLeaves
import Derived.RangeFuncCalls
import Derived.Test.YthkdbkjkccogfaaDoorAbsY
import Derived.Test.YthkdbkjkccogfaaDoorChecked
import Derived.Test.YthkdbkjkccogfaaDoorXr
namespace Go.Proofs.YthkdbkjkccogfaaDoor.Xe
open Go Go.Proofs Go.RowKit Go.Shelf Go.Wd
set_option linter.unusedVariables false
set_option linter.unusedSimpArgs false
attribute [local go_sem] Oper.semAt_some
theorem cell_same {W W' : World} {B j : Nat} (h : W'.heap[B]? = W.heap[B]?) : W'.cell? ⟨B, j, none⟩ = W.cell? ⟨B, j, none⟩ := by simp only [World.cell?, h]
theorem hbit : ∀ pos : Nat, pos < 16 → ∀ k : Nat, k < 4 → (bits .and .i64 ((pos : Int) / 2 ^ k) 1 == 1) = pos.testBit k := by decide
theorem wrap_small {a b : Nat} (h : a * b ≤ 1000) : wrap64 ((a : Int) * (b : Int)) = (a : Int) * (b : Int) := by
  rw [← Int.natCast_mul]
  generalize a * b = c at *
  unfold wrap64
  omega
theorem mono_le {ws : Nat → Nat} {n : Nat} (h : ∀ j, j < n → ws j ≤ 3) (u : Nat) : ∀ k, k ≤ n → mono ws u k ≤ 3 ^ k
  | 0, _ => Nat.le_refl _
  | k + 1, hk => by
    have h1 := mono_le h u k (by omega)
    have e : 3 ^ (k + 1) = 3 ^ k * 3 := Nat.pow_succ 3 k
    rw [mono]; split
    · have := Nat.mul_le_mul h1 (h k (by omega)); omega
    · have : 1 ≤ 3 ^ k := Nat.one_le_pow k 3 (by decide)
      omega
theorem bsum_le {ws : Nat → Nat} {n : Nat} (hn : n ≤ 4) (h : ∀ j, j < n → ws j ≤ 3) (g : Nat → Bool) : ∀ u, bsum ws n g u ≤ 81 * u
  | 0 => Nat.le_refl _
  | u + 1 => by
    have h1 := bsum_le hn h g u
    have h2 := mono_le h u n (Nat.le_refl _)
    have h3 : 3 ^ n ≤ 3 ^ 4 := Nat.pow_le_pow_right (by decide) hn
    rw [bsum]; split <;> omega
set_option maxRecDepth 100000 in
set_option maxHeartbeats 4000000 in
theorem width (tb nfm : List UInt8) (n B o cap : Nat) (ws : Nat → Nat) (g : Nat → Bool) (w : World)
    (h1 : ∀ W, Calls Tryd.prog 86 #[.string ⟨⟨tb⟩⟩] W fun q W' => q = .returned (.bool true) ∧ Below W.heap.size W W')
    (h2 : ∀ W, W.heap[B]? = w.heap[B]? → Calls Tryd.prog 93 #[.slice (some ⟨B, o, none⟩) n cap] W fun q W' => q = .returned (.int .i64 n) ∧ Below W.heap.size W W')
    (h3 : ∀ W, Calls Tryd.prog 87 #[.string ⟨⟨tb⟩⟩] W fun q W' => q = .returned (.int .i64 n) ∧ Below W.heap.size W W')
    (h4 : ∀ W, W.heap[B]? = w.heap[B]? → Calls Tryd.prog 94 #[.slice (some ⟨B, o, none⟩) n cap, .int .i64 0, .int .i64 16] W fun q W' => q = .returned (.bool true) ∧ Below W.heap.size W W')
    (h5 : ∀ W, Calls Tryd.prog 95 #[.string ⟨⟨tb⟩⟩] W fun q W' => q = .returned (.string ⟨⟨nfm⟩⟩) ∧ Below W.heap.size W W')
    (hB : B < w.heap.size) (hn : n ≤ 4) (hw3 : ∀ j, j < n → ws j ≤ 3) (hl16 : nfm.length ≤ 16) (hlet : ∀ pos, pos < nfm.length → nfm[pos]? = some (if g pos = true then 49 else 48)) (hcell : ∀ j, j < n → w.cell? ⟨B, o + j, none⟩ = some (.int .i64 (ws j))) :
    CallsIn Fence.wide 5 Tryd.prog 44 #[.string ⟨⟨tb⟩⟩, .slice (some ⟨B, o, none⟩) n cap] w fun q w' => q = .returned (.tuple #[.int .i64 (bsum ws n g nfm.length : Nat), .bool true]) ∧ Below w.heap.size w w' := by
  refine callsIn_of_wp Tryd.func44 rfl trivial ?_ rfl
  simp only [Tryd.ntmps44, List.size_toArray, List.length_cons, List.length_nil, Nat.reduceAdd, Nat.reduceSub, Array.replicate_succ, Array.replicate_zero, List.push_toArray, List.append_toArray, List.nil_append, List.cons_append]
  have hB0 : Below w.heap.size w w := Below.refl _ w
  gi_wp2
  refine ⟨trivial, (callsIn_wide.2 (h1 _)).mono ?_⟩
  rintro q W1 ⟨rfl, hb1⟩
  have k1 : W1.heap[B]? = w.heap[B]? := hb1.block B hB
  have m1 : Below w.heap.size w W1 := hb1
  gi_wp2
  refine ⟨trivial, (callsIn_wide.2 (h2 _ k1)).mono ?_⟩
  rintro q W2 ⟨rfl, hb2⟩
  have m2 : Below w.heap.size w W2 := m1.trans (hb2.mono m1.size)
  gi_wp2
  refine ⟨trivial, (callsIn_wide.2 (h3 _)).mono ?_⟩
  rintro q W3 ⟨rfl, hb3⟩
  have m3 : Below w.heap.size w W3 := m2.trans (hb3.mono m2.size)
  have hnn : (((n : Nat) : Int) != ((n : Nat) : Int)) = false := by simp
  gi_wp2
  refine ⟨trivial, (callsIn_wide.2 (h4 _ (m3.block B hB))).mono ?_⟩
  rintro q W4 ⟨rfl, hb4⟩
  have m4 : Below w.heap.size w W4 := m3.trans (hb4.mono m3.size)
  gi_wp2
  refine ⟨trivial, (callsIn_wide.2 (h5 _)).mono ?_⟩
  rintro q W5 ⟨rfl, hb5⟩
  have m5 : Below w.heap.size w W5 := m4.trans (hb5.mono m4.size)
  gi_wp2
  gi_loopw [6] (fun v wr => ∃ pos : Nat, pos ≤ nfm.length ∧ v = .int .i64 (bsum ws n g pos : Nat) ∧ wr = W5.iter ⟨⟨nfm⟩⟩ pos) (fun _ wr => nfm.length - wr.iterPos W5.heap.size)
  case atStart => exact ⟨0, by omega, rfl, rfl⟩
  case round =>
    obtain ⟨pos, hpl, rfl, rfl⟩ := hrel
    by_cases hp : pos < nfm.length
    · have hx := hlet pos hp
      obtain ⟨_, hx2⟩ := List.getElem?_eq_some_iff.1 hx
      have hsb := bsum_le hn hw3 g pos
      have hmb := mono_le hw3 pos n (Nat.le_refl _)
      have h81 : 3 ^ n ≤ 3 ^ 4 := Nat.pow_le_pow_right (by decide) hn
      cases hg : g pos with
      | false =>
        rw [hg] at hx2
        simp only [Bool.false_eq_true, if_false] at hx2
        have hnx : ∀ ty, (Instr.next (.pointer (some ⟨W5.heap.size, 0, none⟩)) true ty).run Tryd.prog (W5.iter ⟨⟨nfm⟩⟩ pos) = .ok (.tuple #[.bool true, .int .i64 pos, .int .i32 48]) (W5.iter ⟨⟨nfm⟩⟩ (pos + 1)) := fun ty => by
          have := run_next_ascii (P := Tryd.prog) W5 ⟨⟨nfm⟩⟩ pos ty hp (by show (nfm[pos]'hp).toNat < 128; rw [hx2]; decide)
          rw [this]
          show Result.ok (Value.tuple #[.bool true, .int .i64 pos, .int .i32 (nfm[pos]'hp).toNat]) _ = _
          rw [hx2]; rfl
        gi_wp2
        refine ⟨⟨pos + 1, by omega, by rw [bsum, hg]; simp, rfl⟩, ?_⟩
        simp
        omega
      | true =>
        rw [hg] at hx2
        simp only [if_true] at hx2
        have hnx : ∀ ty, (Instr.next (.pointer (some ⟨W5.heap.size, 0, none⟩)) true ty).run Tryd.prog (W5.iter ⟨⟨nfm⟩⟩ pos) = .ok (.tuple #[.bool true, .int .i64 pos, .int .i32 49]) (W5.iter ⟨⟨nfm⟩⟩ (pos + 1)) := fun ty => by
          have := run_next_ascii (P := Tryd.prog) W5 ⟨⟨nfm⟩⟩ pos ty hp (by show (nfm[pos]'hp).toNat < 128; rw [hx2]; decide)
          rw [this]
          show Result.ok (Value.tuple #[.bool true, .int .i64 pos, .int .i32 (nfm[pos]'hp).toNat]) _ = _
          rw [hx2]; rfl
        gi_wp2
        gi_loop [9, 38] (fun p i => ∃ k : Nat, k ≤ n ∧ i = .int .i64 k ∧ p = .int .i64 (mono ws pos k : Nat)) (fun _ i => n - (intOf i).toNat)
        case atStart => exact ⟨0, by omega, rfl, rfl⟩
        case round =>
          obtain ⟨k, hk, rfl, rfl⟩ := hrel
          by_cases hkn : k < n
          · have hc := hcell k hkn
            have hc2 : (W5.iter ⟨⟨nfm⟩⟩ (pos + 1)).cell? ⟨B, o + k, none⟩ = some (.int .i64 (ws k)) := by
              rw [← hc]
              exact cell_same ((Below.heap_alloc _ _ _ (by have := m5.size; omega)).trans (m5.block B hB))
            have hmk := mono_le hw3 pos k (by omega)
            have h27 : 3 ^ k ≤ 3 ^ 3 := Nat.pow_le_pow_right (by decide) (by omega)
            have hmw : mono ws pos k * ws k ≤ 3 ^ k * 3 := Nat.mul_le_mul hmk (hw3 k hkn)
            cases ht : pos.testBit k with
            | false =>
              have hb : (bits .and .i64 ((pos : Int) / 2 ^ k) 1 == 1) = false := by rw [hbit pos (by omega) k (by omega), ht]
              gi_wp2
              refine ⟨⟨k + 1, by omega, by simp, by rw [mono, ht]; simp⟩, ?_⟩
              simp [intOf]
              omega
            | true =>
              have hb : (bits .and .i64 ((pos : Int) / 2 ^ k) 1 == 1) = true := by rw [hbit pos (by omega) k (by omega), ht]
              gi_wp2
              refine ⟨⟨k + 1, by omega, by simp, by first | rw [mono, if_pos ht, Int.natCast_mul] | rw [mono, if_pos ht, wrap_small (by omega), Int.natCast_mul]⟩, ?_⟩
              simp [intOf]
              omega
          · obtain rfl : k = n := by omega
            gi_wp2
            refine ⟨⟨pos + 1, by omega, by rw [bsum, hg]; simp, rfl⟩, ?_⟩
            simp
            omega
    · have hnx : ∀ ty, (Instr.next (.pointer (some ⟨W5.heap.size, 0, none⟩)) true ty).run Tryd.prog (W5.iter ⟨⟨nfm⟩⟩ pos) = _ := fun ty => run_next_end W5 ⟨⟨nfm⟩⟩ pos ty hp
      gi_wp2
      go_ret2
      obtain rfl : pos = nfm.length := by omega
      exact ⟨rfl, m5.alloc m5.size _⟩
end Go.Proofs.YthkdbkjkccogfaaDoor.Xe
