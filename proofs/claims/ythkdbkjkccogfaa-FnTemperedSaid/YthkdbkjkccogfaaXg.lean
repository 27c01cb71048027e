/- slices.Backward over four pairs of numbers, and what the program makes of it. Nothing is claimed here; no condition. -/
import Derived.RangeFuncBox
import Derived.RangeFuncNested
import Derived.RangeFuncLeaves
import Derived.RangeFuncCalls
import Derived.Shelf.Abstract
import Derived.WalkKit
import Derived.OwnWalkIn
import Derived.TacticsInMore
import Derived.RegionIn
import Derived.Shelf.RegionOpen
import Derived.LoopNIn
import Derived.LoopIn
import Derived.Test.YthkdbkjkccogfaaAbsY
import Derived.Test.YthkdbkjkccogfaaChecked
namespace Go.Proofs.Ythkdbkjkccogfaa.Xg
open Go Go.Proofs Go.RowKit Go.Shelf
set_option linter.unusedVariables false
set_option linter.unusedSimpArgs false
attribute [local go_sem] Oper.semAt_some
/-- Two blocks are kept. -/
def KB (B b : Nat) (W W' : World) : Prop := W'.heap[B]? = W.heap[B]? ∧ W'.heap[b]? = W.heap[b]?
theorem KB.refl (B b : Nat) (W : World) : KB B b W W := ⟨rfl, rfl⟩
theorem KB.trans {B b : Nat} {X Y Z : World} (h : KB B b X Y) (k : KB B b Y Z) : KB B b X Z := ⟨k.1.trans h.1, k.2.trans h.2⟩
theorem cell_same {W W' : World} {B j : Nat} (h : W'.heap[B]? = W.heap[B]?) : W'.cell? ⟨B, j, none⟩ = W.cell? ⟨B, j, none⟩ := by simp only [World.cell?, h]
theorem KB.below {B b n₀ : Nat} {W W' : World} (h : Below n₀ W W') (hB : B < n₀) (hb : b < n₀) : KB B b W W' := ⟨h.block B hB, h.block b hb⟩
/-- What is yielded: a place and two numbers. -/
def el (c : Nat → Int) : Fin 4 → Int × Int × Int
  | 0 => (3, c 6, c 7)
  | 1 => (2, c 4, c 5)
  | 2 => (1, c 2, c 3)
  | 3 => (0, c 0, c 1)
def enc (c : Nat → Int) (i : Fin 4) : Array Value := #[.int .i64 (el c i).1, .agg #[.int .i64 (el c i).2.1, .int .i64 (el c i).2.2]]
def revs : List (Fin 4) := [0, 1, 2, 3]
set_option maxRecDepth 100000 in
set_option maxHeartbeats 4000000 in
theorem back_in (F : Fence) (n : Nat) (h35 : F.fn 35) (hro : F.round = none) (hn : 1 ≤ n) (l Bs b : Nat) (c : Nat → Int) (J Jx : List (Fin 4) → World → Prop)
    (hY : ∀ pre x W, J pre W → pre.length < 4 → YieldAt F (n - 1) Try.prog l (enc c x) W fun e W' =>
      (e = .returned (.bool true) ∧ J (pre ++ [x]) W' ∧ KB Bs b W W') ∨ (e = .returned (.bool false) ∧ Jx (pre ++ [x]) W'))
    (W : World) (hBs : W.cell? ⟨Bs, 0, none⟩ = some (.slice (some ⟨b, 0, none⟩) 4 4)) (hc : ∀ j, j < 8 → W.cell? ⟨b, j, none⟩ = some (.int .i64 (c j))) (h0 : J [] W) :
    CallsIn F n Try.prog 35 #[.func (.yield l) #[] #[], .pointer (some ⟨Bs, 0, none⟩)] W fun e W' => (∃ v, e = .returned v) ∧
      ((∃ ys, ys = revs ∧ J ys W') ∨ (∃ pre, Jx pre W')) := by
  refine callsIn_of_wp Try.func35 rfl h35 ?_ hro
  simp only [Try.ntmps35, List.size_toArray, List.length_cons, List.length_nil, Nat.reduceAdd, Nat.reduceSub, Array.replicate_succ, Array.replicate_zero, List.push_toArray, List.append_toArray, List.nil_append, List.cons_append]
  gi_wp2
  gi_loopw [3] (fun i wr => ∃ k : Nat, k ≤ 4 ∧ i = .int .i64 (3 - (k : Int)) ∧ J (revs.take k) wr ∧ KB Bs b W wr)
    (fun i _ => (intOf i + 1).toNat)
  case atStart => exact ⟨0, Nat.zero_le _, rfl, h0, KB.refl _ _ _⟩
  case round =>
    obtain ⟨k, hk, rfl, hJs, hnx⟩ := hrel
    have hbs := (cell_same hnx.1).trans hBs
    have hcx : ∀ j, j < 8 → wr.cell? ⟨b, j, none⟩ = some (.int .i64 (c j)) := fun j hj => (cell_same hnx.2).trans (hc j hj)
    have h0' := hcx 0 (by decide)
    have h1' := hcx 1 (by decide)
    have h2' := hcx 2 (by decide)
    have h3' := hcx 3 (by decide)
    have h4' := hcx 4 (by decide)
    have h5' := hcx 5 (by decide)
    have h6' := hcx 6 (by decide)
    have h7' := hcx 7 (by decide)
    have hk5 : k = 0 ∨ k = 1 ∨ k = 2 ∨ k = 3 ∨ k = 4 := by omega
    rcases hk5 with rfl | rfl | rfl | rfl | rfl
    · obtain ⟨fn, tmps, assign, body, hy, hR⟩ := hY _ (0 : Fin 4) wr hJs (by simp [revs])
      simp only [enc, el] at hy
      gi_wp2
      refine hR.mono ?_
      rintro e W3 (⟨rfl, hJ3, hk3⟩ | ⟨rfl, hJx3⟩)
      · gi_wp2
        go_roundw
        case rel => exact ⟨1, by omega, by simp, by simpa [revs] using hJ3, hnx.trans hk3⟩
        case measure => simp [intOf]
      · gi_wp2
        refine bodyPost_ret (results_none rfl _ _ _) rfl ?_
        exact ⟨⟨_, rfl⟩, .inr ⟨_, hJx3⟩⟩
    · obtain ⟨fn, tmps, assign, body, hy, hR⟩ := hY _ (1 : Fin 4) wr hJs (by simp [revs])
      simp only [enc, el] at hy
      gi_wp2
      refine hR.mono ?_
      rintro e W3 (⟨rfl, hJ3, hk3⟩ | ⟨rfl, hJx3⟩)
      · gi_wp2
        go_roundw
        case rel => exact ⟨2, by omega, by simp, by simpa [revs] using hJ3, hnx.trans hk3⟩
        case measure => simp [intOf]
      · gi_wp2
        refine bodyPost_ret (results_none rfl _ _ _) rfl ?_
        exact ⟨⟨_, rfl⟩, .inr ⟨_, hJx3⟩⟩
    · obtain ⟨fn, tmps, assign, body, hy, hR⟩ := hY _ (2 : Fin 4) wr hJs (by simp [revs])
      simp only [enc, el] at hy
      gi_wp2
      refine hR.mono ?_
      rintro e W3 (⟨rfl, hJ3, hk3⟩ | ⟨rfl, hJx3⟩)
      · gi_wp2
        go_roundw
        case rel => exact ⟨3, by omega, by simp, by simpa [revs] using hJ3, hnx.trans hk3⟩
        case measure => simp [intOf]
      · gi_wp2
        refine bodyPost_ret (results_none rfl _ _ _) rfl ?_
        exact ⟨⟨_, rfl⟩, .inr ⟨_, hJx3⟩⟩
    · obtain ⟨fn, tmps, assign, body, hy, hR⟩ := hY _ (3 : Fin 4) wr hJs (by simp [revs])
      simp only [enc, el] at hy
      gi_wp2
      refine hR.mono ?_
      rintro e W3 (⟨rfl, hJ3, hk3⟩ | ⟨rfl, hJx3⟩)
      · gi_wp2
        go_roundw
        case rel => exact ⟨4, by omega, by simp, by simpa [revs] using hJ3, hnx.trans hk3⟩
        case measure => simp [intOf]
      · gi_wp2
        refine bodyPost_ret (results_none rfl _ _ _) rfl ?_
        exact ⟨⟨_, rfl⟩, .inr ⟨_, hJx3⟩⟩
    · gi_wp2
      go_end0
      exact ⟨⟨_, rfl⟩, .inl ⟨_, rfl, hJs⟩⟩
theorem back_stops (F : Fence) (n : Nat) (h35 : F.fn 35) (hro : F.round = none) (hn : 1 ≤ n) (Bs b : Nat) (c : Nat → Int) (w : World) (hBl : Bs < w.heap.size) (hb : b < w.heap.size)
    (hBs : w.cell? ⟨Bs, 0, none⟩ = some (.slice (some ⟨b, 0, none⟩) 4 4)) (hc : ∀ j, j < 8 → w.cell? ⟨b, j, none⟩ = some (.int .i64 (c j))) :
    SeqStopsK F n Try.prog 35 #[.pointer (some ⟨Bs, 0, none⟩)] (enc c) (KB Bs b) (fun ys => ys = revs) (fun _ => True) 4 w := fun l J Jx W hW _ _ hY h0 => by
  refine (back_in F n h35 hro hn l Bs b c J Jx hY W ((hW.cell (p := ⟨Bs, 0, none⟩) hBl).trans hBs) (fun j hj => (hW.cell (p := ⟨b, j, none⟩) hb).trans (hc j hj)) h0).mono ?_
  rintro e W' ⟨he, ⟨ys, h1, h2⟩ | ⟨pre, h1⟩⟩
  · exact ⟨he, .inl ⟨ys, h1, h2⟩⟩
  · exact ⟨he, .inr ⟨pre, trivial, h1⟩⟩
/-- Rounds of one change. -/
def rnd (xr : Int → Int → Int) (md : Int → Int → Int → Int) (m : Int × Int) (z : Int) : Nat → Int
  | 0 => z
  | k + 1 => xr z (md (rnd xr md m z k) m.1 m.2)
def zs (xr : Int → Int → Int) (md : Int → Int → Int → Int) (c : Nat → Int) (z : Int) (l : List (Fin 4)) : Int := l.foldl (fun z i => rnd xr md (el c i).2 z 16) z
theorem zs_snoc (xr : Int → Int → Int) (md : Int → Int → Int → Int) (c : Nat → Int) (z : Int) (l : List (Fin 4)) (x : Fin 4) : zs xr md c z (l ++ [x]) = rnd xr md (el c x).2 (zs xr md c z l) 16 := by simp [zs]
def wok (y : Int) : Prop := 0 ≤ y ∧ y ≤ 65535
theorem rnd_ok {xr : Int → Int → Int} {md : Int → Int → Int → Int} {m : Int × Int} (h : ∀ y z, wok y → wok z → wok (xr z (md y m.1 m.2))) {z : Int} (hz : wok z) : ∀ k, wok (rnd xr md m z k)
  | 0 => hz
  | k + 1 => h _ _ (rnd_ok h hz k) hz
theorem zs_ok {xr : Int → Int → Int} {md : Int → Int → Int → Int} {c : Nat → Int} (h : ∀ (i : Fin 4) y z, wok y → wok z → wok (xr z (md y (el c i).2.1 (el c i).2.2))) : ∀ (l : List (Fin 4)) {z : Int}, wok z → wok (zs xr md c z l)
  | [], _, hz => hz
  | i :: l, z, hz => zs_ok h l (rnd_ok (h i) hz 16)
def At (W : World) (B : Nat) (o : Obj) : Prop := W.heap[B]? = some o
theorem At.new (W : World) (o : Obj) : At (W.alloc o) W.heap.size o := World.alloc_heap_new W o
theorem At.lt {W : World} {B : Nat} {o : Obj} (h : At W B o) : B < W.heap.size := (Array.getElem?_eq_some_iff.1 h).1
theorem At.alloc {W : World} {B : Nat} {o : Obj} (h : At W B o) (o' : Obj) : At (W.alloc o') B o := (Below.heap_alloc _ _ _ h.lt).trans h
theorem At.below {W W' : World} {B n : Nat} {o : Obj} (h : At W B o) (hb : Below n W W') (hB : B < n) : At W' B o := (hb.block B hB).trans h
theorem At.cell {W : World} {B : Nat} {c : Array Value} {t : TypeId} {fz : Nat × Nat} (h : At W B (.cells c t fz)) (j : Nat) {v : Value} (hv : c[j]? = some v) : W.cell? ⟨B, j, none⟩ = some v := by
  simp only [World.cell?, show W.heap[B]? = _ from h, Option.isSome_none, Bool.false_eq_true, if_false]; exact hv
set_option maxRecDepth 100000 in
set_option maxHeartbeats 1000000 in
theorem bk (n B : Nat) (W : World) : CallsIn Fence.wide n Try.prog 23 #[.slice (some ⟨B, 0, none⟩) 4 4] W fun q W' => q = .returned (.func (.func 35) #[] #[.pointer (some ⟨W.heap.size, 0, none⟩)]) ∧ W' = W.alloc (.cells #[.slice (some ⟨B, 0, none⟩) 4 4] 53) := by
  refine callsIn_of_wp Try.func23 rfl trivial ?_ rfl
  simp only [Try.ntmps23, List.size_toArray, List.length_cons, List.length_nil, Nat.reduceAdd, Nat.reduceSub, Array.replicate_succ, Array.replicate_zero, List.push_toArray, List.append_toArray, List.nil_append, List.cons_append]
  gi_wp2
  go_ret
  exact ⟨rfl, rfl⟩
def tv (a b c d e f : Int) : Value := .agg #[.int .i64 a, .int .i64 b, .int .i64 c, .int .i64 d, .int .i64 e, .int .i64 f]
def to6 (a b c d e f : Int) : Obj := .cells #[.int .i64 a, .int .i64 b, .int .i64 c, .int .i64 d, .int .i64 e, .int .i64 f] 26
def actT (a b c d e f z : Int) (cs : Nat → Int) (n0 B Bx : Nat) (x : Fin 4) : Act := { tmps := #[.agg #[.int .i64 a, .int .i64 b, .int .i64 c, .int .i64 d, .int .i64 e, .int .i64 f], .int .i64 z, .pointer (some ⟨n0, 0, none⟩), .pointer (some ⟨n0 + 1, 0, none⟩), .int .i64 0, .bool false,
  .pointer (some ⟨B, 0, none⟩), undef, .pointer (some ⟨Bx, 0, none⟩), undef, .agg #[.int .i64 a, .int .i64 b, .int .i64 c, .int .i64 d, .int .i64 e, .int .i64 f], .int .i64 z, .bool true, .bool false, .agg #[.int .i64 a, .int .i64 b, .int .i64 c, .int .i64 d, .int .i64 e, .int .i64 f],
  .agg #[.int .i64 (cs 0), .int .i64 (cs 1), .int .i64 (cs 2), .int .i64 (cs 3), .int .i64 (cs 4), .int .i64 (cs 5), .int .i64 (cs 6), .int .i64 (cs 7)], .slice (some ⟨B, 0, none⟩) 4 4, .func (.func 35) #[] #[.pointer (some ⟨B + 1, 0, none⟩)], .int .i64 (el cs x).1, .agg #[.int .i64 (el cs x).2.1, .int .i64 (el cs x).2.2],
  undef, undef, undef, undef, undef, undef, undef, undef, undef, undef, undef, undef, undef, undef], defers := [] }
theorem ownFrom_size {β : Type} (B k : Nat) : OwnFrom B (fun (_ : β) W => k ≤ W.heap.size) := fun _ _ _ _ hs hg _ => Nat.le_trans hs hg.size
theorem ownFrom_at (B Bx : Nat) (o : Obj) (ho : o.isCells = true) : OwnFrom B (fun (_ : Unit) W => At W Bx o) := fun _ X Y row hs hg hr =>
  (hg.block Bx (At.lt hs) (fun e => by obtain ⟨_, q, h1, h2⟩ := hr Bx e.symm; rw [show X.heap[Bx]? = _ from hs] at h1; cases h1; rw [ho] at h2; cases h2)).trans hs
def xr (x y : Int) : Int := bits .xor .i64 x y
set_option maxRecDepth 100000 in
set_option maxHeartbeats 8000000 in
theorem unt (a b c d e f z : Int) (cs : Nat → Int) (md : Int → Int → Int → Int) (w : World)
    (hIW : ∀ W, Calls Try.prog 21 #[.agg #[.int .i64 a, .int .i64 b, .int .i64 c, .int .i64 d, .int .i64 e, .int .i64 f], .int .i64 z] W fun q W' => q = .returned (.bool true) ∧ Below W.heap.size W W')
    (hMV : ∀ W, Calls Try.prog 22 #[.agg #[.int .i64 a, .int .i64 b, .int .i64 c, .int .i64 d, .int .i64 e, .int .i64 f]] W fun q W' => q = .returned (.agg #[.int .i64 (cs 0), .int .i64 (cs 1), .int .i64 (cs 2), .int .i64 (cs 3), .int .i64 (cs 4), .int .i64 (cs 5), .int .i64 (cs 6), .int .i64 (cs 7)]) ∧ Below W.heap.size W W')
    (hMD : ∀ (i : Fin 4) y W, wok y → Calls Try.prog 24 #[.int .i64 y, .int .i64 (el cs i).2.1, .int .i64 (el cs i).2.2] W fun q W' => q = .returned (.int .i64 (md y (el cs i).2.1 (el cs i).2.2)) ∧ Below W.heap.size W W')
    (hcl : ∀ (i : Fin 4) y z, wok y → wok z → wok (xr z (md y (el cs i).2.1 (el cs i).2.2))) (hz0 : wok z) :
    CallsIn Fence.wide 5 Try.prog 8 #[.agg #[.int .i64 a, .int .i64 b, .int .i64 c, .int .i64 d, .int .i64 e, .int .i64 f], .int .i64 z] w fun q w' => q = .returned (.tuple #[.int .i64 (zs xr md cs z revs), .bool true]) ∧ Below w.heap.size w w' := by
  refine callsIn_of_wp_marks Try.func8 rfl trivial ?_ rfl
  simp only [Try.ntmps8, List.size_toArray, List.length_cons, List.length_nil, Nat.reduceAdd, Nat.reduceSub, Array.replicate_succ, Array.replicate_zero, List.push_toArray, List.append_toArray, List.nil_append, List.cons_append]
  have hB0 : Below w.heap.size w w := Below.refl _ w
  gi_wp2
  refine ⟨trivial, (callsIn_wide.2 (hIW _)).mono ?_⟩
  rintro q W1 ⟨rfl, hb1⟩
  have hA1 : At W1 w.heap.size (to6 a b c d e f) := ((At.new w _).alloc _).below hb1 (by simp only [World.size_alloc]; omega)
  have hZ1 : Boxed W1 (w.heap.size + 1) 2 (.int .i64 z) := At.below (by have := At.new (w.alloc (to6 a b c d e f)) (.cells #[Value.int IntKind.i64 z] 2); rwa [World.size_alloc] at this) hb1 (by simp only [World.size_alloc]; omega)
  have a0 := At.cell hA1 0 rfl
  have a1 := At.cell hA1 1 rfl
  have a2 := At.cell hA1 2 rfl
  have a3 := At.cell hA1 3 rfl
  have a4 := At.cell hA1 4 rfl
  have a5 := At.cell hA1 5 rfl
  gi_wp2
  refine ⟨trivial, (callsIn_wide.2 (hMV _)).mono ?_⟩
  rintro q W2 ⟨rfl, hb2⟩
  gi_wp2
  refine ⟨trivial, (bk _ _ _).mono ?_⟩
  rintro q W3 ⟨rfl, e3⟩
  gi_wp2
  have hlt1 : w.heap.size + 1 < W1.heap.size := hZ1.lt
  have hZ2 : Boxed W2 (w.heap.size + 1) 2 (.int .i64 z) := At.below hZ1 hb2 hlt1
  have hZ4 := (hZ2.alloc (.cells #[.int .i64 (cs 0), .int .i64 (cs 1), .int .i64 (cs 2), .int .i64 (cs 3), .int .i64 (cs 4), .int .i64 (cs 5), .int .i64 (cs 6), .int .i64 (cs 7)] 48)).alloc (.cells #[.slice (some ⟨W2.heap.size, 0, none⟩) 4 4] 53)
  have hBW : Below w.heap.size w W2 := ((((Below.refl _ w).alloc (Nat.le_refl _) _).alloc (by simp only [World.size_alloc]; omega) _).trans (hb1.mono (by simp only [World.size_alloc]; omega))).trans (hb2.mono (by omega))
  have hsz2 := hBW.size
  have hB4 : Below w.heap.size w ((W2.alloc (.cells #[.int .i64 (cs 0), .int .i64 (cs 1), .int .i64 (cs 2), .int .i64 (cs 3), .int .i64 (cs 4), .int .i64 (cs 5), .int .i64 (cs 6), .int .i64 (cs 7)] 48)).alloc (.cells #[.slice (some ⟨W2.heap.size, 0, none⟩) 4 4] 53)) := (hBW.alloc hsz2 _).alloc (by simp only [World.size_alloc]; omega) _
  have hM4 : At ((W2.alloc (.cells #[.int .i64 (cs 0), .int .i64 (cs 1), .int .i64 (cs 2), .int .i64 (cs 3), .int .i64 (cs 4), .int .i64 (cs 5), .int .i64 (cs 6), .int .i64 (cs 7)] 48)).alloc (.cells #[.slice (some ⟨W2.heap.size, 0, none⟩) 4 4] 53)) W2.heap.size (.cells #[.int .i64 (cs 0), .int .i64 (cs 1), .int .i64 (cs 2), .int .i64 (cs 3), .int .i64 (cs 4), .int .i64 (cs 5), .int .i64 (cs 6), .int .i64 (cs 7)] 48) := (At.new _ _).alloc _
  have hS4 : At ((W2.alloc (.cells #[.int .i64 (cs 0), .int .i64 (cs 1), .int .i64 (cs 2), .int .i64 (cs 3), .int .i64 (cs 4), .int .i64 (cs 5), .int .i64 (cs 6), .int .i64 (cs 7)] 48)).alloc (.cells #[.slice (some ⟨W2.heap.size, 0, none⟩) 4 4] 53)) (W2.heap.size + 1) (.cells #[.slice (some ⟨W2.heap.size, 0, none⟩) 4 4] 53) := by
    have := At.new (W2.alloc (.cells #[.int .i64 (cs 0), .int .i64 (cs 1), .int .i64 (cs 2), .int .i64 (cs 3), .int .i64 (cs 4), .int .i64 (cs 5), .int .i64 (cs 6), .int .i64 (cs 7)] 48)) (.cells #[.slice (some ⟨W2.heap.size, 0, none⟩) 4 4] 53)
    rwa [World.size_alloc] at this
  have hs4 : ((W2.alloc (.cells #[.int .i64 (cs 0), .int .i64 (cs 1), .int .i64 (cs 2), .int .i64 (cs 3), .int .i64 (cs 4), .int .i64 (cs 5), .int .i64 (cs 6), .int .i64 (cs 7)] 48)).alloc (.cells #[.slice (some ⟨W2.heap.size, 0, none⟩) 4 4] 53)).heap.size = W2.heap.size + 2 := by simp only [World.size_alloc]
  refine wpIn_rangeFunc_ownH rfl (by decide) (gf := 35) (lb := #[.pointer (some ⟨W2.heap.size + 1, 0, none⟩)]) rfl trivial (enters_of Try.func35 (by kernel_rfl) rfl)
    (back_stops Fence.wide 4 trivial rfl (by decide) (W2.heap.size + 1) W2.heap.size cs _ (by rw [hs4]; omega) (by rw [hs4]; omega) (At.cell hS4 0 rfl) (fun j hj => At.cell hM4 j (by
      have : j = 0 ∨ j = 1 ∨ j = 2 ∨ j = 3 ∨ j = 4 ∨ j = 5 ∨ j = 6 ∨ j = 7 := by omega
      rcases this with rfl | rfl | rfl | rfl | rfl | rfl | rfl | rfl <;> rfl)))
    (fun h k => h.trans k) (fun W l o o' hl h _ _ => ⟨World.putObj_heap_other (by rw [hs4] at hl; omega), World.putObj_heap_other (by rw [hs4] at hl; omega)⟩) (Below.refl _ _) (fun _ => rfl)
    (fun pre W => (Boxed W (w.heap.size + 1) 2 (.int .i64 (zs xr md cs z pre)) ∧ Below w.heap.size w W) ∧ W2.heap.size + 2 ≤ W.heap.size)
    (fun _ _ _ => False)
    (OwnFrom.and (OwnFrom.and ((boxed_own (w.heap.size + 1) 2 (fun pre => Value.int .i64 (zs xr md cs z pre))).from _) (ownFrom_below (Nat.le_refl _) (by rw [hs4]; omega))) (ownFrom_size _ _))
    (fun _ _ _ _ _ hs _ _ => hs)
    ⟨⟨hZ4, hB4⟩, by rw [hs4]; omega⟩
    (fun x a' W => ∃ Bx, a' = actT a b c d e f z cs w.heap.size W2.heap.size Bx x ∧ At W Bx (.cells #[.int .i64 (el cs x).2.1, .int .i64 (el cs x).2.2] 47) ∧ W2.heap.size + 2 ≤ Bx)
    (fun x a' _ X Y row hs hg hr => by
      obtain ⟨Bx, h1, h2, h3⟩ := hs
      exact ⟨Bx, h1, ownFrom_at _ Bx _ rfl () X Y row h2 hg hr, h3⟩)
    ?assign ?body ?done ?stop
  case assign =>
    rintro l pre x W K ⟨⟨hz, hb⟩, hs⟩ hK
    simp only [enc]
    gi_wp2
    exact hK (actT a b c d e f z cs w.heap.size W2.heap.size W.heap.size x) _ ((KeepsOthers.alloc W _).from _) ⟨Below.heap_alloc _ _ _ (by omega), Below.heap_alloc _ _ _ (by omega)⟩ ⟨⟨hz.alloc _, hb.alloc hb.size _⟩, by simp only [World.size_alloc]; omega⟩ ⟨W.heap.size, rfl, At.new _ _, hs⟩
  case body =>
    rintro l pre x a' W hl hrec ⟨⟨hz, hb⟩, hs⟩ ⟨Bx, rfl, hx, hbx⟩ hlen
    have hzc := hz.cell
    have hmx : Try.prog.follows .mixedOrders = true := by kernel_rfl
    have h24 : Fence.wide.fn 24 := trivial
    have hb2s := hb2.size
    unfold actT
    gi_wp2
    gi_loopw [9, 21] (fun vy vi wr => ∃ k : Nat, k ≤ 16 ∧ vi = .int .i64 k ∧ vy = .int .i64 (rnd xr md (el cs x).2 (zs xr md cs z pre) k) ∧ Below W.heap.size W wr) (fun _ vi _ => 16 - (intOf vi).toNat)
    case atStart => exact ⟨0, by omega, rfl, rfl, Below.refl _ _⟩
    case round =>
      obtain ⟨k, hk, rfl, rfl, hw⟩ := hrel
      have hz1 : Boxed wr (w.heap.size + 1) 2 (.int .i64 (zs xr md cs z pre)) := At.below hz hw hz.lt
      have hzc1 := hz1.cell
      have hzf1 := hz1.frozen
      have hxr := At.below hx hw hx.lt
      have hx0 := At.cell hxr 0 rfl
      have hx1 := At.cell hxr 1 rfl
      by_cases hlt : k < 16
      · gi_wp2
        gi_region_with_o (gi_at_call 24; refine (CallsIn.inRound l (callsIn_wide.2 (hMD x _ _ (rnd_ok (hcl x) (zs_ok hcl pre hz0) k)))).mono ?_; rintro q W5 ⟨rfl, hb5⟩; have hz5 := Boxed.cell (show Boxed W5 (w.heap.size + 1) 2 (.int .i64 (zs xr md cs z pre)) from (hb5.block (w.heap.size + 1) hz1.lt).trans hz1))
        all_goals (
          gi_wp2
          go_roundw
          case rel => exact ⟨k + 1, by omega, by simp, rfl, hw.drew.trans (hb5.mono hw.size)⟩
          case measure => simp [intOf]; omega)
      · obtain rfl : k = 16 := by omega
        gi_wp2
        have hg := grownBy_setCell' wr (w.heap.size + 1) (Value.int .i64 (rnd xr md (el cs x).2 (zs xr md cs z pre) 16))
        have hwz := hw.size
        refine ⟨⟨Nat.le_trans hwz hg.size, fun q o hq ho hc => ?_⟩, ⟨?_, ?_⟩, ⟨⟨by rw [zs_snoc]; exact hz1.set _, ((hb.trans (hw.mono hb.size)).setCell (p := ⟨w.heap.size + 1, 0, none⟩) (by show w.heap.size ≤ w.heap.size + 1; omega) _)⟩, by have := hg.size; omega⟩⟩
        · have hq2 : q < W.heap.size := (Array.getElem?_eq_some_iff.1 ho).1
          exact ((hg.block q (by omega) (fun e => by cases e; rw [hs4] at hq; omega)).trans (hw.block q hq2)).trans ho
        · exact (hg.block _ (by omega) (fun e => by simp at e; omega)).trans (hw.block _ (by omega))
        · exact (hg.block _ (by omega) (fun e => by simp at e; omega)).trans (hw.block _ (by omega))
  case done =>
    rintro D ys W hD rfl ⟨⟨hz, hb⟩, hs⟩ hK
    have hzc := hz.cell
    gi_wp2
    refine ⟨by simp, .inl ⟨_, _, rfl, run_takeDeferred hK, ?_⟩⟩
    exact ⟨_, results_tmp2 rfl _ _ _, rfl, hb.trans (belowK_b (w := w) (Nat.le_refl _) W D _ _ (by rw [hs4] at hD; omega) hK rfl rfl)⟩
  case stop =>
    rintro D c pre W _ _ h _
    exact h.elim
set_option maxRecDepth 100000 in
set_option maxHeartbeats 2000000 in
theorem unt0 (a b c d e f z : Int) (w : World)
    (hIW : ∀ W, Calls Try.prog 21 #[.agg #[.int .i64 a, .int .i64 b, .int .i64 c, .int .i64 d, .int .i64 e, .int .i64 f], .int .i64 z] W fun q W' => q = .returned (.bool false) ∧ Below W.heap.size W W') :
    CallsIn Fence.wide 5 Try.prog 8 #[.agg #[.int .i64 a, .int .i64 b, .int .i64 c, .int .i64 d, .int .i64 e, .int .i64 f], .int .i64 z] w fun q w' => q = .returned (.tuple #[.int .i64 0, .bool false]) ∧ Below w.heap.size w w' := by
  refine callsIn_of_wp Try.func8 rfl trivial ?_ rfl
  simp only [Try.ntmps8, List.size_toArray, List.length_cons, List.length_nil, Nat.reduceAdd, Nat.reduceSub, Array.replicate_succ, Array.replicate_zero, List.push_toArray, List.append_toArray, List.nil_append, List.cons_append]
  have hB0 : Below w.heap.size w w := Below.refl _ w
  gi_wp2
  refine ⟨trivial, (callsIn_wide.2 (hIW _)).mono ?_⟩
  rintro q W1 ⟨rfl, hb1⟩
  have hB1 : Below w.heap.size w W1 := (((Below.refl _ w).alloc (Nat.le_refl _) _).alloc (by simp only [World.size_alloc]; omega) _).trans (hb1.mono (by simp only [World.size_alloc]; omega))
  gi_wp2
  go_ret2
  exact ⟨rfl, hB1⟩
end Go.Proofs.Ythkdbkjkccogfaa.Xg
