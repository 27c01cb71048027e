/- What the tables know of strings.Builder. Nothing is claimed here; no condition. -/
import Derived.Test.YthkdbkjkccogfaaDoorXb
import Derived.Test.YthkdbkjkccogfaaDoorAbsZ
namespace Go.Proofs.YthkdbkjkccogfaaDoor
open Go Go.Abs Go.RowKit
set_option linter.unusedVariables false
set_option linter.unusedSimpArgs false
def bytesB : List AV → Option (List UInt8)
  | [] => some []
  | .int .u8 n :: r => bif inB n 256 then match bytesB r with
      | some l => some (UInt8.ofNat n.toNat :: l)
      | none => none
    else none
  | _ :: _ => none
theorem bytesB_get : ∀ {cs : List AV} {l : List UInt8}, bytesB cs = some l → cs.length = l.length ∧ ∀ (j : Nat) (x : UInt8), l[j]? = some x → cs[j]? = some (.int .u8 (x.toNat : Int))
  | [], l, h => by simp only [bytesB] at h; cases h; exact ⟨rfl, fun j x hx => by simp at hx⟩
  | c :: r, l, h => by
    unfold bytesB at h
    split at h
    · rename_i h0; cases h0
    · rename_i n r' he
      cases he
      cases hn : inB n 256 with
      | false => rw [hn] at h; cases h
      | true =>
        rw [hn] at h
        simp only [cond_true] at h
        split at h
        · rename_i l' hl
          cases h
          obtain ⟨h1, h2⟩ := bytesB_get hl
          rw [inB_dec] at hn
          have hn2 := of_decide_eq_true hn
          refine ⟨by simp [h1], fun j x hx => ?_⟩
          cases j with
          | zero =>
            simp at hx
            subst hx
            have : (UInt8.ofNat n.toNat).toNat = n.toNat := by
              rw [UInt8.toNat_ofNat']; exact Nat.mod_eq_of_lt (by omega)
            simp [this]; omega
          | succ j => simpa using h2 j x (by simpa using hx)
        · cases h
    · cases h
theorem bytesB_byts : ∀ (l : List Nat), (∀ x ∈ l, x < 256) → bytesB (byts l) = some (l.map UInt8.ofNat)
  | [], _ => rfl
  | x :: l, h => by
    have h1 : inB (x : Int) 256 = true := by rw [inB_dec]; exact decide_eq_true ⟨by omega, by have := h x (by simp); omega⟩
    show (bif inB (x : Int) 256 then match bytesB (byts l) with
      | some l => some (UInt8.ofNat (x : Int).toNat :: l)
      | none => none else none) = _
    rw [h1, bytesB_byts l (fun y hy => h y (by simp [hy]))]
    rfl
def extB (f : FuncId) (args : List AV) (σ : St) : Option (AV × St) :=
  if f = 132 then match args with
    | [.ptr b 0] => match σ.get b with
      | some ⟨[p, s], z, o⟩ => if z = tagOf 117 2 then match p with
          | .nilP => some (.tup [], σ.set b ⟨[.ptr b 0, s], z, o⟩)
          | .ptr c 0 => if c = b then some (.tup [], σ) else none
          | _ => none
        else none
      | _ => none
    | _ => none
  else if f = 92 then match args with
    | [.ptr b 0] => match σ.get b with
      | some ⟨[_, s], z, _⟩ => if z = tagOf 117 2 then match s with
          | .nilS => some (.str [], σ)
          | .sl c 0 n k => match σ.get c with
            | some y => if y.esz = tagOf 5 1 ∧ n ≠ 0 ∧ n ≤ k ∧ n ≤ 9223372036854775807 then match getCells y.cells 0 n with
                | some cs => match bytesB cs with
                  | some l => some (.str l, σ.del c)
                  | none => none
                | none => none
              else none
            | none => none
          | _ => none
        else none
      | _ => none
    | _ => none
  else none
variable {Z : Fz} {φ : Nat → Pl} {σ : St} {w w' : World}
theorem cell_of {B o j : Nat} {c : Array Value} {e : TypeId} {fz : Nat × Nat} {v : Value} (h : w.heap[B]? = some (.cells c e fz)) (hv : (c.toList.drop o)[j]? = some v) : w.cell? ⟨B, o + j, none⟩ = some v := by
  rw [List.getElem?_drop] at hv
  simp only [World.cell?, h, Option.isSome_none, Bool.false_eq_true, if_false]
  rw [← Array.getElem?_toList]; exact hv
theorem big (e n : Nat) : 7000000000 ≤ tagOf e n := by unfold tagOf; omega
theorem setCell_put {B : Nat} {c : Array Value} {e : TypeId} {fz : Nat × Nat} {v : Value} (h : w.heap[B]? = some (.cells c e fz)) : RowPut w B (.cells (c.setIfInBounds 0 v) e fz) (w.setCell ⟨B, 0, none⟩ v) := by
  refine ⟨?_, fun i hi => ?_, ?_, rfl, rfl, rfl⟩
  · simp only [World.setCell, Array.getElem?_modify, if_true, h]
    simp
  · simp only [World.setCell, Array.getElem?_modify]
    rw [if_neg (fun e => hi e.symm)]
  · simp [World.setCell]
theorem freeze_ne {B g n : Nat} (h : B ≠ g) : (w.freeze ⟨g, 0, none⟩ n).heap[B]? = w.heap[B]? := by
  unfold World.freeze
  split
  · rfl
  · simp only [Array.getElem?_modify]
    rw [if_neg (fun e => h e.symm)]
theorem freeze_size {g n : Nat} : (w.freeze ⟨g, 0, none⟩ n).heap.size = w.heap.size := by
  unfold World.freeze
  split <;> simp
theorem freeze_os {g n : Nat} : (w.freeze ⟨g, 0, none⟩ n).os = w.os ∧ (w.freeze ⟨g, 0, none⟩ n).tape = w.tape ∧ (w.freeze ⟨g, 0, none⟩ n).output = w.output := by
  unfold World.freeze
  split <;> exact ⟨rfl, rfl, rfl⟩
/-- A variable of a builder in the world. -/
theorem build_at (hI : Inv Z φ σ w) {b : Nat} {p s : AV} {o : Bool} (hb : σ.get b = some ⟨[p, s], tagOf 117 2, o⟩) :
    ∃ vp vs fz, w.heap[(φ b).blk]? = some (.cells #[vp, vs] 117 fz) ∧ (φ b).base = 0 ∧ VR Z φ p vp ∧ VR Z φ s vs ∧ (fz.1 ≤ 0 && 0 < fz.2) = false ∧ (∀ j, j < 2 → (fz.1 ≤ j && j < fz.2) = false) ∧ (o = false → (φ b).extra = 0) ∧ (φ b).extra * 2 ≤ 0 := by
  obtain ⟨c, e, fz, g1, g2, g3, g4, g5, g6⟩ := hI.r b _ hb
  obtain ⟨k1, k2, k3⟩ := g6 (big _ _)
  have hm : tagOf 117 2 % 7000000000 = 2 := tagOf_mod _ (by decide)
  have k4 := k3 hm
  have ke : e = 117 := k1.trans (tagOf_div _ (by decide))
  subst ke
  rw [k2] at g2 g3
  simp only [List.drop_zero] at g2
  have hl : c.toList.length = 2 := by simpa using k4
  obtain ⟨vp, vs, hc⟩ : ∃ vp vs, c.toList = [vp, vs] := by
    match c.toList, hl with
    | [a, b], _ => exact ⟨a, b, rfl⟩
  have hc2 : c = #[vp, vs] := by apply Array.ext'; rw [hc]
  rw [hc] at g2
  subst hc2
  refine ⟨vp, vs, fz, g1, k2, g2.1, g2.2.1, g4 0 (by simp), fun j hj => g4 j (by simpa using hj), g5, ?_⟩
  have : 0 + 2 + (φ b).extra * (tagOf 117 2 % 7000000000) ≤ 2 := by simpa using g3
  rw [hm] at this
  omega
theorem extB_ok : CallOK Tryd.prog extB := by
  intro f args σ v σ' h Z φ w us hI hV hsz hS
  unfold extB at h
  split at h
  · rename_i hf
    subst hf
    split at h
    · rename_i b
      obtain ⟨u0, hus⟩ : ∃ u0, us = #[u0] := by
        have hlen : us.toList.length = 1 := by rw [Array.length_toList]; exact hsz
        match hu : us.toList, hlen with
        | [a], _ => exact ⟨a, by apply Array.ext'; rw [hu]⟩
      subst hus
      have v0 := hV.1
      simp only [VR, Nat.add_zero] at v0
      split at h
      · rename_i p s z o hb
        split at h
        · rename_i hz
          subst hz
          obtain ⟨vp, vs, fz, g1, g2, g3, g4, g5, g6, g7, g8⟩ := build_at hI hb
          rw [g2] at v0
          subst v0
          have e0 : (callFunc 132 #[.pointer (some ⟨(φ b).blk, 0, none⟩)]).run Tryd.prog w = .ok (.enter 132 #[.pointer (some ⟨(φ b).blk, 0, none⟩)]) w := Go.Proofs.enters_of Tryd.func132 (by kernel_rfl) rfl _ _
          have c0 : w.cell? ⟨(φ b).blk, 0, none⟩ = some vp := by have := cell_of (o := 0) (j := 0) (v := vp) g1 rfl; simpa using this
          split at h
          · cases h
            simp only [VR] at g3
            subst g3
            have hsh : w.shape? (φ b).blk = some (117, 2) := by simp [World.shape?, g1]
            have hfz : w.frozen? ⟨(φ b).blk, 0, none⟩ = false := by simp only [World.frozen?, g1]; simpa using g5
            refine ⟨e0, (Xb.fresh _ w c0 hsh hfz).mono ?_⟩
            rintro e' w' ⟨rfl, rfl⟩
            have hp := setCell_put (v := .pointer (some ⟨(φ b).blk, 0, none⟩)) g1
            have hreal : Real Z φ ⟨[.ptr b 0, s], tagOf 117 2, o⟩ (φ b) (w.setCell ⟨(φ b).blk, 0, none⟩ (.pointer (some ⟨(φ b).blk, 0, none⟩))) := by
              refine ⟨_, 117, fz, hp.here, ?_, ?_, fun j hj => g6 j (by simpa using hj), g7, fun _ => ⟨(tagOf_div _ (by decide)).symm, g2, fun _ => by simp⟩⟩
              · rw [g2]
                refine ⟨?_, g4, trivial⟩
                simp only [VR, g2]
              · rw [g2, show (⟨[.ptr b 0, s], tagOf 117 2, o⟩ : Blk).esz % 7000000000 = 2 from tagOf_mod _ (by decide)]
                simp; omega
            have hsc : Scs σ.n [.ptr b 0, s] := ⟨(hI.sc b _ hb).1, (hI.sc b _ hb).2.2⟩
            obtain ⟨k1, k2⟩ := set_ok hI hb hp hreal hsc
            exact ⟨Z, φ, .tuple #[], rfl, ⟨[], rfl, rfl, trivial⟩, trivial, k1, k2⟩
          · split at h
            · rename_i hc
              subst hc
              cases h
              simp only [VR, g2, Nat.add_zero] at g3
              subst g3
              refine ⟨e0, (Xb.used _ w c0).mono ?_⟩
              rintro e' w' ⟨rfl, rfl⟩
              exact ⟨Z, φ, .tuple #[], rfl, ⟨[], rfl, rfl, trivial⟩, trivial, hI, Ext.refl _ _ _ _⟩
            · cases h
          · cases h
        · cases h
      · cases h
    · cases h
  · split at h
    · rename_i hf
      subst hf
      split at h
      · rename_i b
        obtain ⟨u0, hus⟩ : ∃ u0, us = #[u0] := by
          have hlen : us.toList.length = 1 := by rw [Array.length_toList]; exact hsz
          match hu : us.toList, hlen with
          | [a], _ => exact ⟨a, by apply Array.ext'; rw [hu]⟩
        subst hus
        have v0 := hV.1
        simp only [VR, Nat.add_zero] at v0
        split at h
        · rename_i p s z o hb
          split at h
          · rename_i hz
            subst hz
            obtain ⟨vp, vs, fz, g1, g2, g3, g4, g5, g6, g7, g8⟩ := build_at hI hb
            rw [g2] at v0
            subst v0
            have e0 : (callFunc 92 #[.pointer (some ⟨(φ b).blk, 0, none⟩)]).run Tryd.prog w = .ok (.enter 92 #[.pointer (some ⟨(φ b).blk, 0, none⟩)]) w := Go.Proofs.enters_of Tryd.func92 (by kernel_rfl) rfl _ _
            have c1 : w.cell? ⟨(φ b).blk, 1, none⟩ = some vs := by have := cell_of (o := 0) (j := 1) (v := vs) g1 rfl; simpa using this
            split at h
            · cases h
              simp only [VR] at g4
              subst g4
              refine ⟨e0, (Xb.none_ _ w c1).mono ?_⟩
              rintro e' w' ⟨rfl, rfl⟩
              exact ⟨Z, φ, .string ⟨#[]⟩, rfl, rfl, trivial, hI.drew, Ext.drew⟩
            · rename_i c n k
              split at h
              · rename_i y hc
                split at h
                · rename_i hcond
                  obtain ⟨t1, t2, t3, t4⟩ := hcond
                  split at h
                  · rename_i cs hcs
                    split at h
                    · rename_i l hl
                      cases h
                      obtain ⟨d, e, fz2, q1, q2, q3, q4, q5, q6⟩ := hI.r c y hc
                      obtain ⟨r1, r2, _⟩ := q6 (by rw [t1]; exact big _ _)
                      have re : e = 5 := by rw [r1, t1]; exact tagOf_div _ (by decide)
                      subst re
                      rw [r2] at q2 q3
                      simp only [VR, r2, Nat.add_zero] at g4
                      subst g4
                      simp only [List.drop_zero] at q2
                      obtain ⟨o1, o2, o3⟩ := getCells_spec hcs
                      obtain ⟨p1, p2⟩ := bytesB_get hl
                      have hln : l.length = n := by rw [← p1, o3]
                      have hyl : n ≤ y.cells.length := by omega
                      have hcell : ∀ j x, l[j]? = some x → w.cell? ((⟨(φ c).blk, 0, none⟩ : Addr).add j) = some (.int .u8 x.toNat) := by
                        intro j x hx
                        have hj := p2 j x hx
                        have hjn : j < n := by rw [← hln]; exact (List.getElem?_eq_some_iff.1 hx).1
                        rw [o2, List.getElem?_take, if_pos hjn, List.drop_zero] at hj
                        obtain ⟨v, hv1, hv2⟩ := VRs_get q2 hj
                        simp only [VR] at hv2
                        subst hv2
                        have h0 := cell_of (o := 0) (j := j) q1 (by simpa using hv1)
                        by_cases hj0 : j = 0
                        · rw [hj0] at h0 ⊢
                          simpa [Addr.add] using h0
                        · simpa [Addr.add, hj0] using h0
                      have hsh : w.shape? (φ c).blk = some (5, d.size) := by simp [World.shape?, q1]
                      have hds : l.length ≤ d.size := by omega
                      rw [← hln] at c1 t2 t3
                      refine ⟨e0, (Xb.text _ _ _ l w (fun e => t2 (by rw [e]; rfl)) (by omega) c1 _ hsh hds (by omega) hcell).mono ?_⟩
                      rintro e' w' ⟨rfl, rfl⟩
                      have hdr : w.drew.heap = w.heap := rfl
                      refine ⟨Z, φ, .string ⟨l.toArray⟩, rfl, rfl, trivial, ?_, ?_⟩
                      · refine ((hI.del c).drew).world fun B hB => freeze_ne fun e => ?_
                        subst e
                        rcases hB with hB | ⟨b', x, hb', hx⟩
                        · exact hB (hI.nz c y hc)
                        · obtain ⟨hne, hb''⟩ := get_del_some hb'
                          exact hI.inj b' c x y hb'' hc (fun e => hne e.symm) hx
                      · obtain ⟨z1, z2, z3⟩ := freeze_os (w := w.drew) (g := (φ c).blk) (n := l.length)
                        exact ⟨fun _ _ h => h, fun _ h => .inl h, fun _ _ => rfl, Nat.le_refl _, by rw [freeze_size]; exact Nat.le_refl _, fun B hB hn => freeze_ne fun e => hn ⟨c, y, hc, e.symm⟩, fun B hB => .inr (FP_del hB), z1, z2, z3⟩
                    · cases h
                  · cases h
                · cases h
              · cases h
            · cases h
          · cases h
        · cases h
      · cases h
    · cases h
end Go.Proofs.YthkdbkjkccogfaaDoor
