/- The tables that know CombinedWidth. Nothing is claimed here; no condition. -/
import Derived.Test.YthkdbkjkccogfaaDoorXe
import Derived.Test.YthkdbkjkccogfaaDoorXc
import Derived.Test.YthkdbkjkccogfaaDoorJd
import Derived.Test.YthkdbkjkccogfaaDoorAbsLf
namespace Go.Proofs.YthkdbkjkccogfaaDoor
open Go Go.Abs Go.Wd Go.RowKit
set_option linter.unusedVariables false
set_option linter.unusedSimpArgs false
/-- A contract in the machine. -/
theorem calls_W {f : FuncId} {args : List AV} {v : AV} {us : Array Value} {u : Value} {W : World} (h : FnV TT f args v) (hfz : mapO (frzV ⟨[], 0⟩ frzDepth) args = some args)
    (hv : VRs (fun B => W.heap[B]?) (fun _ => ⟨0, 0, 0⟩) args us.toList) (hsz : us.size = args.length) (hs : Scs 0 args) (hu : ∀ Z φ u', VR Z φ v u' → u' = u) : Calls Tryd.prog f us W fun q W' => q = .returned u ∧ Below W.heap.size W W' := by
  obtain ⟨n, hn⟩ := callI_some (h ⟨[], 0⟩ args hfz)
  refine Calls.mono ((exec_ok TT_ok n).2 f args ⟨[], 0⟩ _ _ hn _ _ W us (Inv.empty _ (fun _ _ h => h)) hv hsz hs).2 ?_
  rintro e w' ⟨Z', φ', u', rfl, hg⟩
  obtain ⟨h1, _, _, h4⟩ := hg
  refine ⟨by rw [hu _ _ _ h1], h4.os, h4.tape, h4.output, h4.sz, fun k hk => h4.fr k hk ?_⟩
  rintro ⟨b, x, hb, _⟩
  simp [St.get, hget] at hb
def natsOf : List AV → Option (List Nat)
  | [] => some []
  | .int .i64 n :: r => if 0 ≤ n ∧ n ≤ 3 then match natsOf r with
      | some l => some (n.toNat :: l)
      | none => none
    else none
  | _ :: _ => none
theorem natsOf_spec : ∀ {cs : List AV} {l : List Nat}, natsOf cs = some l → cs = ints (nints l) ∧ ∀ x ∈ l, x ≤ 3
  | [], l, h => by simp only [natsOf] at h; cases h; exact ⟨rfl, fun x hx => by cases hx⟩
  | c :: r, l, h => by
    unfold natsOf at h
    split at h
    · rename_i h0; cases h0
    · rename_i n r' he
      cases he
      split at h
      · rename_i hn
        split at h
        · rename_i l' hl
          cases h
          obtain ⟨h1, h2⟩ := natsOf_spec hl
          refine ⟨?_, fun x hx => ?_⟩
          · rw [h1]
            show _ = AV.int .i64 ((n.toNat : Nat) : Int) :: ints (nints l')
            rw [Int.toNat_of_nonneg hn.1]
          · rcases List.mem_cons.1 hx with rfl | hx
            · omega
            · exact h2 x hx
        · cases h
      · cases h
    · cases h
theorem natsOf_ints : ∀ {l : List Nat}, (∀ x ∈ l, x ≤ 3) → natsOf (ints (nints l)) = some l
  | [], _ => rfl
  | x :: r, h => by
    show (if 0 ≤ (x : Int) ∧ (x : Int) ≤ 3 then match natsOf (ints (nints r)) with
      | some l => some ((x : Int).toNat :: l)
      | none => none else none) = _
    rw [if_pos ⟨by omega, by have := h x (by simp); omega⟩, natsOf_ints (fun y hy => h y (by simp [hy]))]
    simp
def wsF (ws : List Nat) : Nat → Nat := fun i => ws.getD i 0
def cwV (tb : List UInt8) (ws : List Nat) : Nat := bsum (wsF ws) ws.length (nf ws.length (bitf tb)) (pw ws.length)
def extW (f : FuncId) (args : List AV) (σ : St) : Option (AV × St) :=
  if f = 44 then match args with
    | [.str tb, .sl b off n c] => if tb.length = pw n ∧ n ≤ 4 ∧ tb.all isBit = true ∧ n ≤ c then match σ.get b with
        | some y => match getCells y.cells off n with
          | some cs => match natsOf cs with
            | some ws => some (.tup [.int .i64 (cwV tb ws : Nat), .bool true], σ)
            | none => none
          | none => none
        | none => none
      else none
    | _ => none
  else extB f args σ
section
variable {Z : Fz} {φ : Nat → Pl} {σ : St} {w w' : World}
theorem inv_below (hI : Inv Z φ σ w) (hb : Below w.heap.size w w') : Inv Z φ σ w' := hI.world fun B hB => hb.block B (hB.elim hI.z_lt hI.fp_lt)
theorem ext_below (hI : Inv Z φ σ w) (hb : Below w.heap.size w w') : Ext Z φ σ w Z φ σ w' :=
  ⟨fun _ _ h => h, fun _ h => .inl h, fun _ _ => rfl, Nat.le_refl _, hb.size, fun B hB _ => hb.block B hB, fun _ h => .inr h, hb.os, hb.tape, hb.output⟩
end
theorem ints_get {l : List Nat} {j : Nat} {x : Nat} (h : l[j]? = some x) : (ints (nints l))[j]? = some (.int .i64 (x : Int)) := by
  simp [ints, nints, h]
theorem cw_all (tb : List UInt8) (ws : List Nat) (hT : Tbl ws.length tb) (h3 : ∀ x ∈ ws, x ≤ 3) (B o cap : Nat) (hcap : ws.length ≤ cap) (w : World) (c : Array Value) (e : TypeId) (fz : Nat × Nat) (hB : w.heap[B]? = some (.cells c e fz)) (ho : o + ws.length ≤ c.size) (hv : VRs (fun _ => none) (fun _ => ⟨0, 0, 0⟩) (ints (nints ws)) (c.toList.drop o)) :
    Calls Tryd.prog 44 #[.string ⟨⟨tb⟩⟩, .slice (some ⟨B, o, none⟩) ws.length cap] w fun q w' => q = .returned (.tuple #[.int .i64 (cwV tb ws : Nat), .bool true]) ∧ Below w.heap.size w w' := by
  have hp := pw_4 hT.2.1
  have hBl : B < w.heap.size := (Array.getElem?_eq_some_iff.1 hB).1
  have hlst : ∀ W : World, W.heap[B]? = w.heap[B]? → VR (fun B => W.heap[B]?) (fun _ => ⟨0, 0, 0⟩) (.lst ws.length (ints (nints ws))) (.slice (some ⟨B, o, none⟩) ws.length cap) := fun W hW => by
    refine Or.inr ⟨B, o, cap, c, e, fz, rfl, hcap, hW.trans hB, by rw [ints_length, nints_length]; exact ho, ?_⟩
    rw [VRs_iff] at hv ⊢
    refine ⟨hv.1, fun i x y hx hy => ?_⟩
    have := hv.2 i x y hx hy
    obtain ⟨z, _, rfl⟩ : ∃ z, z ∈ nints ws ∧ AV.int .i64 z = x := List.mem_map.1 (List.mem_of_getElem? hx)
    simpa only [VR] using this
  have hfz : ∀ r : List AV, mapO (frzV ⟨[], 0⟩ frzDepth) r = some r → mapO (frzV ⟨[], 0⟩ frzDepth) (.lst ws.length (ints (nints ws)) :: r) = some (.lst ws.length (ints (nints ws)) :: r) := fun r h => mapO_cons rfl h
  have hsc : Scs 0 (ints (nints ws)) := by
    have : ∀ l : List Int, Scs 0 (ints l) := fun l => by induction l with | nil => trivial | cons x r ih => exact ⟨trivial, ih⟩
    exact this _
  have hall : allR (nints ws) 0 16 = true := by
    refine List.all_eq_true.2 fun x hx => ?_
    obtain ⟨y, hy, rfl⟩ := List.mem_map.1 hx
    have := h3 y hy
    exact inR_iff.2 (by omega)
  have hnl : ws.length = (nints ws).length := (nints_length _).symm
  have key := Xe.width tb (txt (pw ws.length) (nf ws.length (bitf tb))) ws.length B o cap (wsF ws) (nf ws.length (bitf tb)) w
    (fun W => calls_W (v86 hT) rfl ⟨rfl, trivial⟩ rfl ⟨trivial, trivial⟩ (fun Z φ u' h => by simpa only [VR] using h))
    (fun W hW => calls_W (v93 (nints ws) ws.length) (hfz [] rfl) ⟨hlst W hW, trivial⟩ rfl ⟨hsc, trivial⟩ (fun Z φ u' h => by simpa only [VR] using h))
    (fun W => calls_W (v87 hT) rfl ⟨rfl, trivial⟩ rfl ⟨trivial, trivial⟩ (fun Z φ u' h => by simpa only [VR] using h))
    (fun W hW => by
      have h := v94 (nints ws) ws.length hnl (by have := hT.2.1; omega) 0 16
      rw [hall] at h
      exact calls_W h (hfz [.int .i64 0, .int .i64 16] rfl) ⟨hlst W hW, rfl, rfl, trivial⟩ rfl ⟨hsc, trivial, trivial, trivial⟩ (fun Z φ u' h => by simpa only [VR] using h))
    (fun W => calls_W (v95 hT) rfl ⟨rfl, trivial⟩ rfl ⟨trivial, trivial⟩ (fun Z φ u' h => by simpa only [VR] using h))
    hBl hT.2.1 (fun j hj => by
      have : wsF ws j = ws[j] := by simp [wsF, List.getD_eq_getElem?_getD, hj]
      rw [this]; exact h3 _ (List.getElem_mem hj)) (by rw [txt_length]; exact hp)
    (fun pos hpos => by
      rw [txt_length] at hpos
      rw [txt_get hpos]
      cases nf ws.length (bitf tb) pos <;> rfl)
    (fun j hj => by
      have hx : ws[j]? = some (wsF ws j) := by simp [wsF, List.getD_eq_getElem?_getD, hj]
      obtain ⟨y, hy1, hy2⟩ := VRs_get hv (ints_get hx)
      simp only [VR] at hy2
      subst hy2
      exact cell_of hB hy1)
  rw [txt_length] at key
  exact (callsIn_wide (n := 5)).1 key
theorem extW_ok : CallOK Tryd.prog extW := by
  intro f args σ v σ' h Z φ w us hI hV hsz hS
  unfold extW at h
  split at h
  · rename_i hf
    subst hf
    split at h
    · rename_i tb b off n c
      split at h
      · rename_i hcond
        split at h
        · rename_i y hy
          split at h
          · rename_i cs hcs
            split at h
            · rename_i ws hws
              cases h
              obtain ⟨u0, u1, hus⟩ : ∃ u0 u1, us.toList = [u0, u1] := by
                have hlen2 : us.toList.length = 2 := by rw [Array.length_toList]; exact hsz
                match us.toList, hlen2 with
                | [a, b], _ => exact ⟨a, b, rfl⟩
              rw [hus] at hV
              obtain ⟨v0, v1, _⟩ := hV
              simp only [VR] at v0 v1
              subst v0 v1
              obtain ⟨n1, n2⟩ := natsOf_spec hws
              obtain ⟨o1, o2, o3⟩ := getCells_spec hcs
              have hn : n = ws.length := by rw [← o3, n1, ints_length, nints_length]
              subst hn
              obtain ⟨t1, t2, t3, t4⟩ := hcond
              have hus2 : us = #[.string ⟨⟨tb⟩⟩, .slice (some ⟨(φ b).blk, (φ b).base + off, none⟩) ws.length (c + (φ b).extra)] := by
                apply Array.ext'; rw [hus]
              obtain ⟨d, e, fz, g1, g2, g3, _⟩ := hI.r b y hy
              have hvs : VRs (fun _ => none) (fun _ => ⟨0, 0, 0⟩) (ints (nints ws)) (d.toList.drop ((φ b).base + off)) := by
                rw [VRs_iff]
                refine ⟨?_, fun i x z hx hz => ?_⟩
                · have hdl : d.toList.length = d.size := Array.length_toList
                  simp only [ints_length, nints_length, List.length_drop]; omega
                · have hx2 := hx
                  rw [← n1, o2, List.getElem?_take] at hx2
                  split at hx2
                  · rw [List.getElem?_drop] at hx2
                    obtain ⟨z2, e1, e2⟩ := VRs_get g2 hx2
                    rw [List.getElem?_drop] at e1 hz
                    rw [Nat.add_assoc] at hz
                    rw [hz] at e1
                    cases e1
                    obtain ⟨q, _, rfl⟩ : ∃ q, q ∈ nints ws ∧ AV.int .i64 q = x := List.mem_map.1 (List.mem_of_getElem? hx)
                    simpa only [VR] using e2
                  · cases hx2
              rw [hus2]
              refine ⟨Go.Proofs.enters_of Tryd.func44 (by kernel_rfl) rfl _ _, (cw_all tb ws ⟨t1, t2, t3⟩ n2 _ _ _ (by omega) w d e fz g1 (by omega) hvs).mono ?_⟩
              rintro q w' ⟨rfl, hb⟩
              exact ⟨Z, φ, _, rfl, ⟨_, rfl, rfl, ⟨rfl, rfl, trivial⟩⟩, ⟨trivial, trivial, trivial⟩, inv_below hI hb, ext_below hI hb⟩
            · cases h
          · cases h
        · cases h
      · cases h
    · cases h
  · exact extB_ok f args σ v σ' h Z φ w us hI hV hsz hS
noncomputable def TX : Tab := tabOf tyT fnT anT extW
set_option maxRecDepth 100000 in
theorem tx_code : (fnT.all fun f F => match F.body with | some c => codeChk (tabOf tyT fnT anT extW) (FI.of F ((tabOf tyT fnT anT extW).an f)) c | none => true) = true := by kernel_rfl
theorem TX_ok : TabOK Tryd.prog TX := tab_ok (by kernel_rfl) tt_ty tt_fn tt_en tx_code extW_ok
theorem extW_more : LeC TT.ext extW := by
  intro f args σ r h
  have h : extB f args σ = some r := h
  unfold extW
  split
  · rename_i hf
    subst hf
    simp [extB] at h
  · exact h
theorem more {f : FuncId} {args : List AV} {σ : St} {r : AV × St} (h : callI TT f args σ = some r) : callI TX f args σ = some r := callI_more extW_more f args σ r h
theorem cCW {tb : List UInt8} {ws : List Nat} (hT : Tbl ws.length tb) (h3 : ∀ x ∈ ws, x ≤ 3) {σ : St} {b : Nat} (hr : Row σ b (nints ws)) : callI TX 44 [.str tb, .sl b 0 ws.length ws.length] σ = some (.tup [.int .i64 (cwV tb ws : Nat), .bool true], σ) := by
  have h8 : TX.fn 44 = none := by kernel_rfl
  obtain ⟨o, hg, _⟩ := hr
  have hgc : getCells (ints (nints ws)) 0 ws.length = some (ints (nints ws)) := getCells_full (nints_length _).symm
  have e : callI TX 44 [.str tb, .sl b 0 ws.length ws.length] σ = extW 44 [.str tb, .sl b 0 ws.length ws.length] σ := by
    unfold callI callA; rw [h8]; rfl
  rw [e]
  unfold extW
  rw [if_pos rfl]
  simp only [hg, hgc, natsOf_ints h3]
  rw [if_pos ⟨hT.1, hT.2.1, hT.2.2, Nat.le_refl _⟩]
end Go.Proofs.YthkdbkjkccogfaaDoor
