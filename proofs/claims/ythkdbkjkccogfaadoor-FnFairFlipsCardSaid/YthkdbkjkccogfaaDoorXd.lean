/- strings.Count of one letter, walked; the tables that know it. Nothing is claimed here; no condition. -/
import Derived.Shelf.RegionOpenPlain
import Derived.Lib.Walk
import Derived.Lib.Strings
import Derived.Lib.Bytealg
import Derived.Lib.CountLaws
import Derived.WalkKit
import Derived.Laws.Externs
import Derived.Test.YthkdbkjkccogfaaDoorXc
import Derived.Test.YthkdbkjkccogfaaDoorHd
import Derived.Test.YthkdbkjkccogfaaDoorAbsLf
namespace Go.Proofs.YthkdbkjkccogfaaDoor.Xd
open Go Go.Proofs Go.RowKit Go.Shelf
set_option linter.unusedVariables false
set_option linter.unusedSimpArgs false
set_option maxHeartbeats 1000000 in
set_option maxRecDepth 100000 in
theorem count (s : ByteArray) (c : UInt8) (w : World) :
    Calls Tryd.prog 98 #[.string s, .string ⟨#[c]⟩] w fun e w' => e = .returned (.int .i64 (Lib.countByte s.data.toList c)) ∧ w' = w := by
  have mixed : Tryd.prog.follows .mixedOrders = true := by kernel_rfl
  go_enter Tryd.func98, Tryd.ntmps98
  go_wp2
  rw [run_callFunc_extern Tryd.func137 (by kernel_rfl) (by kernel_rfl) (by kernel_rfl) (e := Extern.BytealgCount.count) (by kernel_rfl), Lib.run_countString]
  simp only [Result.andThen]
  rw [Oper.upon_value]
  go_wp2
  go_ret
  exact ⟨rfl, rfl⟩
end Go.Proofs.YthkdbkjkccogfaaDoor.Xd
namespace Go.Proofs.YthkdbkjkccogfaaDoor
open Go Go.Abs Go.RowKit
set_option linter.unusedVariables false
set_option linter.unusedSimpArgs false
def extC (f : FuncId) (args : List AV) (σ : St) : Option (AV × St) :=
  if f = 98 then match args with
    | [.str l, .str [c]] => some (.int .i64 (l.count c : Nat), σ)
    | _ => none
  else extB f args σ
theorem extC_ok : CallOK Tryd.prog extC := by
  intro f args σ v σ' h Z φ w us hI hV hsz hS
  unfold extC at h
  split at h
  · rename_i hf
    subst hf
    split at h
    · rename_i l c
      cases h
      obtain ⟨u0, u1, hus⟩ : ∃ u0 u1, us.toList = [u0, u1] := by
        have hlen2 : us.toList.length = 2 := by rw [Array.length_toList]; exact hsz
        match us.toList, hlen2 with
        | [a, b], _ => exact ⟨a, b, rfl⟩
      rw [hus] at hV
      obtain ⟨v0, v1, _⟩ := hV
      simp only [VR] at v0 v1
      subst v0 v1
      have hus2 : us = #[.string ⟨l.toArray⟩, .string ⟨#[c]⟩] := by
        apply Array.ext'; rw [hus]
      rw [hus2]
      refine ⟨Go.Proofs.enters_of Tryd.func98 (by kernel_rfl) rfl _ _, (Xd.count ⟨l.toArray⟩ c w).mono ?_⟩
      rintro q w' ⟨rfl, rfl⟩
      exact ⟨Z, φ, _, rfl, rfl, trivial, hI, Ext.refl _ _ _ _⟩
    · cases h
  · exact extB_ok f args σ v σ' h Z φ w us hI hV hsz hS
noncomputable def TX : Tab := tabOf tyT fnT anT extC
set_option maxRecDepth 100000 in
theorem tx_code : (fnT.all fun f F => match F.body with | some c => codeChk (tabOf tyT fnT anT extC) (FI.of F ((tabOf tyT fnT anT extC).an f)) c | none => true) = true := by kernel_rfl
theorem TX_ok : TabOK Tryd.prog TX := tab_ok (by kernel_rfl) tt_ty tt_fn tt_en tx_code extC_ok
theorem extC_more : LeC TT.ext extC := by
  intro f args σ r h
  have h : extB f args σ = some r := h
  unfold extC
  split
  · rename_i hf
    subst hf
    simp [extB] at h
  · exact h
theorem more {f : FuncId} {args : List AV} {σ : St} {r : AV × St} (h : callI TT f args σ = some r) : callI TX f args σ = some r := callI_more extC_more f args σ r h
end Go.Proofs.YthkdbkjkccogfaaDoor
