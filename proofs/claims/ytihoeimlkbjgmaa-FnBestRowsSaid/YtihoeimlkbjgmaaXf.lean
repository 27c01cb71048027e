/- What the tables know of slices.AppendSeq. Nothing is claimed here; no condition. -/
import Derived.Test.YtihoeimlkbjgmaaXe
namespace Go.Proofs.Ytihoeimlkbjgmaa
open Go Go.Abs Go.RowKit
set_option linter.unusedVariables false
set_option linter.unusedSimpArgs false
def unints : List AV → Option (List Int)
  | [] => some []
  | .int .i64 x :: r => match unints r with
    | some l => some (x :: l)
    | none => none
  | _ => none
theorem unints_ok : ∀ {cs : List AV} {l : List Int}, unints cs = some l → cs = ints l
  | [], l, h => by simp only [unints] at h; cases h; rfl
  | x :: r, l, h => by
    unfold unints at h
    split at h
    · rename_i h0
      cases h0
    · rename_i y r' he
      cases he
      split at h
      · rename_i l' hl
        cases h
        rw [ints_cons, unints_ok hl]
      · cases h
    · cases h
theorem unints_ints : ∀ l : List Int, unints (ints l) = some l
  | [] => rfl
  | x :: l => by rw [ints_cons]; simp only [unints, unints_ints l]
def listOf (σ : St) : AV → Option (List Int)
  | .nilS => some []
  | .lst n cs => match unints cs with
    | some l => if l.length = n then some l else none
    | none => none
  | .sl b off n cap => match σ.get b with
    | some y => match getCells y.cells off n with
      | some cs => match unints cs with
        | some l => if l.length = n ∧ n ≤ cap then some l else none
        | none => none
      | none => none
    | none => none
  | _ => none
def extF (f : FuncId) (args : List AV) (σ : St) : Option (AV × St) :=
  if f = 199 then match args with
    | [.nilS, .fn g [] [.ptr c o]] => if g = 187 then match cellsAt σ (.ptr c o) 1 with
        | some [sv] => match listOf σ sv with
          | some l => if l.length ≤ 1000000 then some (if l = [] then (.nilS, σ) else (.sl σ.n 0 l.length l.length, σ.push ⟨ints l, 1, true⟩)) else none
          | none => none
        | _ => none
      else none
    | _ => none
  else none
variable {Z : Fz} {φ : Nat → Pl} {σ : St} {w w' : World}
theorem cell_of {B o j : Nat} {c : Array Value} {e : TypeId} {fz : Nat × Nat} {v : Value} (h : w.heap[B]? = some (.cells c e fz)) (hv : (c.toList.drop o)[j]? = some v) : w.cell? ⟨B, o + j, none⟩ = some v := by
  rw [List.getElem?_drop] at hv
  simp only [World.cell?, h, Option.isSome_none, Bool.false_eq_true, if_false]
  rw [← Array.getElem?_toList]; exact hv
theorem ints_of {l : List Int} {ys : List Value} (h : VRs Z φ (ints l) ys) {j : Nat} (hj : j < l.length) : ys[j]? = some (.int .i64 (l[j]?.getD 0)) := by
  have hx : (ints l)[j]? = some (.int .i64 (l[j]?.getD 0)) := by simp [ints, hj]
  obtain ⟨y, hy, hv⟩ := VRs_get h hx
  simp only [VR] at hv
  rw [hy, hv]
theorem listOf_ok (hI : Inv Z φ σ w) {sv : AV} {u : Value} {l : List Int} (h : listOf σ sv = some l) (hv : VR Z φ sv u) : Xe.Ints w.heap.size w u l := by
  unfold listOf at h
  split at h
  · cases h
    simp only [VR] at hv
    exact .inl ⟨none, 0, hv, rfl⟩
  · rename_i n cs
    split at h
    · rename_i l' hl
      split at h
      · rename_i hn
        cases h
        simp only [VR] at hv
        rcases hv with ⟨h0, hcs, a, cap, rfl⟩ | ⟨B, o, cap, c, e, fz, rfl, hle, hz, hsz, hvs⟩
        · subst h0
          exact .inl ⟨a, cap, rfl, List.length_eq_zero_iff.1 hn⟩
        · have hB := hI.z B _ hz
          rw [unints_ok hl] at hvs
          refine .inr ⟨B, o, cap, by rw [hn], (Array.getElem?_eq_some_iff.1 hB).1, fun j hj => cell_of hB (ints_of hvs hj)⟩
      · cases h
    · cases h
  · rename_i b off n cap
    split at h
    · rename_i y hb
      split at h
      · rename_i cs hcs
        split at h
        · rename_i l' hl
          split at h
          · rename_i hn
            cases h
            simp only [VR] at hv
            subst hv
            obtain ⟨c, e, fz, h1, h2, h3, h4, h5⟩ := hI.r b y hb
            rw [getCells_eq] at hcs
            split at hcs
            · rename_i hlen
              cases hcs
              refine .inr ⟨(φ b).blk, (φ b).base + off, cap + (φ b).extra, by rw [hn.1], (Array.getElem?_eq_some_iff.1 h1).1, fun j hj => ?_⟩
              have hx : y.cells[off + j]? = some (.int .i64 (l[j]?.getD 0)) := by
                have e1 : ((y.cells.drop off).take n)[j]? = (ints l)[j]? := by rw [unints_ok hl]
                rw [List.getElem?_take, if_pos (by omega), List.getElem?_drop] at e1
                rw [e1]; simp [ints, hj]
              obtain ⟨v, hv1, hv2⟩ := VRs_get h2 hx
              simp only [VR] at hv2
              subst hv2
              rw [show (φ b).base + off + j = (φ b).base + (off + j) by omega]
              exact cell_of h1 hv1
            · cases hcs
          · cases h
        · cases h
      · cases h
    · cases h
  · cases h
theorem inv_below (hI : Inv Z φ σ w) (hb : Below w.heap.size w w') : Inv Z φ σ w' := hI.world fun B hB => hb.block B (hB.elim hI.z_lt hI.fp_lt)
theorem ext_below (hI : Inv Z φ σ w) (hb : Below w.heap.size w w') : Ext Z φ σ w Z φ σ w' :=
  ⟨fun _ _ h => h, fun _ h => .inl h, fun _ _ => rfl, Nat.le_refl _, hb.size, fun B hB _ => hb.block B hB, fun _ h => .inr h, hb.os, hb.tape, hb.output⟩
/-- A row of numbers that is new and may have room. -/
theorem good_new (hI : Inv Z φ σ w) (hb : Below w.heap.size w w') {l : List Int} {e : TypeId} {u : Value} (hne : l ≠ []) (hr : w'.ownsRow w.heap.size e 1 u l.length (l.map (Value.int .i64))) : ∃ φ', Go.Abs.Good Z φ σ w (.sl σ.n 0 l.length l.length) (σ.push ⟨ints l, 1, true⟩) Z φ' u w' := by
  obtain ⟨_, hr⟩ := hr
  rcases hr with ⟨_, h0⟩ | ⟨g, cap, cur, rfl, hg, hh, hle, _, hsz, htk⟩
  · exact absurd (List.length_eq_zero_iff.1 h0) hne
  · have hI' := inv_below hI hb
    have hreal : Real Z φ ⟨ints l, 1, true⟩ ⟨g, 0, cap - l.length⟩ w' := by
      refine ⟨cur, e, (0, 0), hh, ?_, by simp only [ints_length]; omega, by simp, by simp⟩
      rw [List.drop_zero, VRs_iff, ints_length]
      rw [Nat.mul_one] at hsz htk
      refine ⟨by have e : cur.toList.length = cur.size := Array.length_toList; omega, fun i x y hx hy => ?_⟩
      have hil : i < l.length := by
        have := (List.getElem?_eq_some_iff.1 hx).1
        rwa [ints_length] at this
      have hx' : x = .int .i64 (l[i]?.getD 0) := by simp [ints, hil] at hx; simp [hil, hx]
      have hy' : (cur.toList.take l.length)[i]? = some y := by rw [List.getElem?_take, if_pos hil]; exact hy
      rw [htk] at hy'
      simp [hil] at hy'
      subst hx'
      simp only [VR]
      simp [hil, hy']
    have hz : Z g = none := by
      cases hzg : Z g with
      | none => rfl
      | some o => have := hI.z_lt (B := g) (by simp [hzg]); omega
    have hf : ¬ FP σ φ g := fun hF => by have := hI.fp_lt hF; omega
    have hgs : g < w'.heap.size := (Array.getElem?_eq_some_iff.1 hh).1
    have hsc : Scs σ.n (ints l) := Scs_iff.2 fun x hx => by
      obtain ⟨y, _, rfl⟩ := List.mem_map.1 hx
      trivial
    refine ⟨upd φ σ.n ⟨g, 0, cap - l.length⟩, ?_, Nat.lt_succ_self _, hI'.push_at hreal hz hf hsc, ?_⟩
    · simp only [VR, upd_same]
      rw [show l.length + (cap - l.length) = cap by omega]
    · refine ⟨fun _ _ h => h, fun _ h => .inl h, fun b hb => upd_lt hb, Nat.le_succ _, hb.size, fun B hB _ => hb.block B hB, fun B hB => ?_, hb.os, hb.tape, hb.output⟩
      rcases FP_push (fun b y hy => (hI.sc b y hy).1) hB with rfl | hF
      · exact .inl hg
      · exact .inr hF
theorem extF_ok : CallOK Try.prog extF := by
  intro f args σ v σ' h Z φ w us hI hV hsz hS
  unfold extF at h
  split at h
  · rename_i hf
    subst hf
    split at h
    · rename_i g c o
      split at h
      · rename_i hg
        subst hg
        split at h
        · rename_i sv hsv
          split at h
          · rename_i l hl
            split at h
            · rename_i hlen
              obtain ⟨u0, u1, hus⟩ : ∃ u0 u1, us.toList = [u0, u1] := by
                have hlen2 : us.toList.length = 2 := by rw [Array.length_toList]; exact hsz
                match us.toList, hlen2 with
                | [a, b], _ => exact ⟨a, b, rfl⟩
              rw [hus] at hV
              simp only [VRs, and_true] at hV
              obtain ⟨v0, v1⟩ := hV
              simp only [VR] at v0 v1
              obtain ⟨x, y, rfl, hx, _, hy, hvy⟩ := v1
              obtain rfl : x = [] := List.length_eq_zero_iff.1 (by simpa using hx)
              obtain ⟨y0, rfl⟩ : ∃ y0, y = [y0] := by
                match y, hy with
                | [a], _ => exact ⟨a, rfl⟩
              simp only [VRs, and_true] at hvy
              obtain ⟨B, bo, cc, e, fz, hp, hh, hbo, _, hvs, _⟩ := cellsAt_spec hI hsv hvy (by
                simp only [Scs, Sc, and_true] at hS
                exact hS.2.2)
              subst hp
              have hcell : ∃ u, w.cell? ⟨B, bo, none⟩ = some u ∧ VR Z φ sv u := by
                obtain ⟨u, hu1, hu2⟩ := VRs_get hvs (i := 0) (x := sv) rfl
                rw [List.getElem?_take, if_pos (by omega)] at hu1
                exact ⟨u, by have := cell_of hh hu1; simpa using this, hu2⟩
              obtain ⟨u, hu1, hu2⟩ := hcell
              have hints := listOf_ok hI hl hu2
              have hBs : B < w.heap.size := (Array.getElem?_eq_some_iff.1 hh).1
              have hwalk := callsIn_wide.1 (Xe.append_in Fence.wide 3 trivial trivial rfl (Nat.le_refl _) B bo u l hlen w hBs hu1 hints)
              have hus2 : us = #[.slice none 0 0, .func (.func 187) #[] #[.pointer (some ⟨B, bo, none⟩)]] := by
                apply Array.ext'
                rw [hus, v0]
              rw [hus2]
              refine ⟨Go.Proofs.enters_of Try.func199 (by kernel_rfl) rfl _ _, hwalk.mono ?_⟩
              rintro e' w' ⟨u', rfl, hrow, hnil, hb⟩
              by_cases hl0 : l = []
              · rw [if_pos hl0] at h
                cases h
                exact ⟨Z, φ, u', rfl, by rw [hnil.2 hl0]; rfl, trivial, inv_below hI hb, ext_below hI hb⟩
              · rw [if_neg hl0] at h
                cases h
                obtain ⟨φ', hg⟩ := good_new hI hb hl0 hrow
                exact ⟨Z, φ', u', rfl, hg⟩
            · cases h
          · cases h
        · cases h
      · cases h
    · cases h
  · cases h
end Go.Proofs.Ytihoeimlkbjgmaa
