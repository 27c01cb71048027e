/- What the law answers, at all arguments. Nothing is claimed here; no condition. -/
import Derived.Test.YtcghfhlmhmnioaaCriFinA
import Derived.Test.YtcghfhlmhmnioaaCriFinB
import Derived.Test.YtcghfhlmhmnioaaCriFinC
import Derived.Test.YtcghfhlmhmnioaaCriFinD
import Derived.Test.YtcghfhlmhmnioaaCriFinE
namespace Go.Proofs.Ytcghfhlmhmnioaa.Cri
open Go Go.Abs
theorem cases13 {p : Int → Prop} (hn : ∀ b, p (.negSucc b)) (h0 : p (.ofNat 0)) (h1 : p (.ofNat 1)) (h2 : p (.ofNat 2)) (h3 : p (.ofNat 3)) (h4 : p (.ofNat 4)) (h5 : p (.ofNat 5)) (h6 : p (.ofNat 6)) (h7 : p (.ofNat 7)) (h8 : p (.ofNat 8)) (h9 : p (.ofNat 9)) (h10 : p (.ofNat 10)) (h11 : p (.ofNat 11)) (h12 : p (.ofNat 12)) (hb : ∀ b, p (.ofNat (b + 13))) : ∀ c, p c
  | .negSucc b => hn b
  | .ofNat 0 => h0
  | .ofNat 1 => h1
  | .ofNat 2 => h2
  | .ofNat 3 => h3
  | .ofNat 4 => h4
  | .ofNat 5 => h5
  | .ofNat 6 => h6
  | .ofNat 7 => h7
  | .ofNat 8 => h8
  | .ofNat 9 => h9
  | .ofNat 10 => h10
  | .ofNat 11 => h11
  | .ofNat 12 => h12
  | .ofNat (b + 13) => hb b
theorem n1 (c : Int) : fcall TF (fexec TF 100000) 5 [.int .i64 (.ofNat 1), .int .i64 (c)] ⟨[], 0⟩ = some (.bool true, ⟨[], 0⟩) :=
  cases13 (p := fun c => fcall TF (fexec TF 100000) 5 [.int .i64 (.ofNat 1), .int .i64 (c)] ⟨[], 0⟩ = some (.bool true, ⟨[], 0⟩)) n1neg n1c0 n1c1 n1c2 n1c3 n1c4 n1c5 n1c6 n1c7 n1c8 n1c9 n1c10 n1c11 n1c12 n1big c
theorem n2 (c : Int) : fcall TF (fexec TF 100000) 5 [.int .i64 (.ofNat 2), .int .i64 (c)] ⟨[], 0⟩ = some (.bool true, ⟨[], 0⟩) :=
  cases13 (p := fun c => fcall TF (fexec TF 100000) 5 [.int .i64 (.ofNat 2), .int .i64 (c)] ⟨[], 0⟩ = some (.bool true, ⟨[], 0⟩)) n2neg n2c0 n2c1 n2c2 n2c3 n2c4 n2c5 n2c6 n2c7 n2c8 n2c9 n2c10 n2c11 n2c12 n2big c
theorem n3 (c : Int) : fcall TF (fexec TF 100000) 5 [.int .i64 (.ofNat 3), .int .i64 (c)] ⟨[], 0⟩ = some (.bool true, ⟨[], 0⟩) :=
  cases13 (p := fun c => fcall TF (fexec TF 100000) 5 [.int .i64 (.ofNat 3), .int .i64 (c)] ⟨[], 0⟩ = some (.bool true, ⟨[], 0⟩)) n3neg n3c0 n3c1 n3c2 n3c3 n3c4 n3c5 n3c6 n3c7 n3c8 n3c9 n3c10 n3c11 n3c12 n3big c
theorem n4 (c : Int) : fcall TF (fexec TF 100000) 5 [.int .i64 (.ofNat 4), .int .i64 (c)] ⟨[], 0⟩ = some (.bool true, ⟨[], 0⟩) :=
  cases13 (p := fun c => fcall TF (fexec TF 100000) 5 [.int .i64 (.ofNat 4), .int .i64 (c)] ⟨[], 0⟩ = some (.bool true, ⟨[], 0⟩)) n4neg n4c0 n4c1 n4c2 n4c3 n4c4 n4c5 n4c6 n4c7 n4c8 n4c9 n4c10 n4c11 n4c12 n4big c
theorem n5 (c : Int) : fcall TF (fexec TF 100000) 5 [.int .i64 (.ofNat 5), .int .i64 (c)] ⟨[], 0⟩ = some (.bool true, ⟨[], 0⟩) :=
  cases13 (p := fun c => fcall TF (fexec TF 100000) 5 [.int .i64 (.ofNat 5), .int .i64 (c)] ⟨[], 0⟩ = some (.bool true, ⟨[], 0⟩)) n5neg n5c0 n5c1 n5c2 n5c3 n5c4 n5c5 n5c6 n5c7 n5c8 n5c9 n5c10 n5c11 n5c12 n5big c
theorem n6 (c : Int) : fcall TF (fexec TF 100000) 5 [.int .i64 (.ofNat 6), .int .i64 (c)] ⟨[], 0⟩ = some (.bool true, ⟨[], 0⟩) :=
  cases13 (p := fun c => fcall TF (fexec TF 100000) 5 [.int .i64 (.ofNat 6), .int .i64 (c)] ⟨[], 0⟩ = some (.bool true, ⟨[], 0⟩)) n6neg n6c0 n6c1 n6c2 n6c3 n6c4 n6c5 n6c6 n6c7 n6c8 n6c9 n6c10 n6c11 n6c12 n6big c
theorem n7 (c : Int) : fcall TF (fexec TF 100000) 5 [.int .i64 (.ofNat 7), .int .i64 (c)] ⟨[], 0⟩ = some (.bool true, ⟨[], 0⟩) :=
  cases13 (p := fun c => fcall TF (fexec TF 100000) 5 [.int .i64 (.ofNat 7), .int .i64 (c)] ⟨[], 0⟩ = some (.bool true, ⟨[], 0⟩)) n7neg n7c0 n7c1 n7c2 n7c3 n7c4 n7c5 n7c6 n7c7 n7c8 n7c9 n7c10 n7c11 n7c12 n7big c
theorem n8 (c : Int) : fcall TF (fexec TF 100000) 5 [.int .i64 (.ofNat 8), .int .i64 (c)] ⟨[], 0⟩ = some (.bool true, ⟨[], 0⟩) :=
  cases13 (p := fun c => fcall TF (fexec TF 100000) 5 [.int .i64 (.ofNat 8), .int .i64 (c)] ⟨[], 0⟩ = some (.bool true, ⟨[], 0⟩)) n8neg n8c0 n8c1 n8c2 n8c3 n8c4 n8c5 n8c6 n8c7 n8c8 n8c9 n8c10 n8c11 n8c12 n8big c
theorem n9 (c : Int) : fcall TF (fexec TF 100000) 5 [.int .i64 (.ofNat 9), .int .i64 (c)] ⟨[], 0⟩ = some (.bool true, ⟨[], 0⟩) :=
  cases13 (p := fun c => fcall TF (fexec TF 100000) 5 [.int .i64 (.ofNat 9), .int .i64 (c)] ⟨[], 0⟩ = some (.bool true, ⟨[], 0⟩)) n9neg n9c0 n9c1 n9c2 n9c3 n9c4 n9c5 n9c6 n9c7 n9c8 n9c9 n9c10 n9c11 n9c12 n9big c
theorem n10 (c : Int) : fcall TF (fexec TF 100000) 5 [.int .i64 (.ofNat 10), .int .i64 (c)] ⟨[], 0⟩ = some (.bool true, ⟨[], 0⟩) :=
  cases13 (p := fun c => fcall TF (fexec TF 100000) 5 [.int .i64 (.ofNat 10), .int .i64 (c)] ⟨[], 0⟩ = some (.bool true, ⟨[], 0⟩)) n10neg n10c0 n10c1 n10c2 n10c3 n10c4 n10c5 n10c6 n10c7 n10c8 n10c9 n10c10 n10c11 n10c12 n10big c
theorem n11 (c : Int) : fcall TF (fexec TF 100000) 5 [.int .i64 (.ofNat 11), .int .i64 (c)] ⟨[], 0⟩ = some (.bool true, ⟨[], 0⟩) :=
  cases13 (p := fun c => fcall TF (fexec TF 100000) 5 [.int .i64 (.ofNat 11), .int .i64 (c)] ⟨[], 0⟩ = some (.bool true, ⟨[], 0⟩)) n11neg n11c0 n11c1 n11c2 n11c3 n11c4 n11c5 n11c6 n11c7 n11c8 n11c9 n11c10 n11c11 n11c12 n11big c
theorem n12 (c : Int) : fcall TF (fexec TF 100000) 5 [.int .i64 (.ofNat 12), .int .i64 (c)] ⟨[], 0⟩ = some (.bool true, ⟨[], 0⟩) :=
  cases13 (p := fun c => fcall TF (fexec TF 100000) 5 [.int .i64 (.ofNat 12), .int .i64 (c)] ⟨[], 0⟩ = some (.bool true, ⟨[], 0⟩)) n12neg n12c0 n12c1 n12c2 n12c3 n12c4 n12c5 n12c6 n12c7 n12c8 n12c9 n12c10 n12c11 n12c12 n12big c
theorem negP (b : Nat) (c : Nat) : fcall TF (fexec TF 100000) 5 [.int .i64 (.negSucc b), .int .i64 (.ofNat c)] ⟨[], 0⟩ = some (.bool true, ⟨[], 0⟩) := by kernel_rfl
theorem negM (b : Nat) (c : Nat) : fcall TF (fexec TF 100000) 5 [.int .i64 (.negSucc b), .int .i64 (.negSucc c)] ⟨[], 0⟩ = some (.bool true, ⟨[], 0⟩) := by kernel_rfl
theorem negA (b : Nat) (c : Int) : fcall TF (fexec TF 100000) 5 [.int .i64 (.negSucc b), .int .i64 (c)] ⟨[], 0⟩ = some (.bool true, ⟨[], 0⟩) := by
  cases c with
  | ofNat c => exact negP b c
  | negSucc c => exact negM b c
theorem zeroP (c : Nat) : fcall TF (fexec TF 100000) 5 [.int .i64 (.ofNat 0), .int .i64 (.ofNat c)] ⟨[], 0⟩ = some (.bool true, ⟨[], 0⟩) := by kernel_rfl
theorem zeroM (c : Nat) : fcall TF (fexec TF 100000) 5 [.int .i64 (.ofNat 0), .int .i64 (.negSucc c)] ⟨[], 0⟩ = some (.bool true, ⟨[], 0⟩) := by kernel_rfl
theorem zeroA (c : Int) : fcall TF (fexec TF 100000) 5 [.int .i64 (.ofNat 0), .int .i64 (c)] ⟨[], 0⟩ = some (.bool true, ⟨[], 0⟩) := by
  cases c with
  | ofNat c => exact zeroP c
  | negSucc c => exact zeroM c
theorem bigP (b : Nat) (c : Nat) : fcall TF (fexec TF 100000) 5 [.int .i64 (.ofNat (b + 13)), .int .i64 (.ofNat c)] ⟨[], 0⟩ = some (.bool true, ⟨[], 0⟩) := by kernel_rfl
theorem bigM (b : Nat) (c : Nat) : fcall TF (fexec TF 100000) 5 [.int .i64 (.ofNat (b + 13)), .int .i64 (.negSucc c)] ⟨[], 0⟩ = some (.bool true, ⟨[], 0⟩) := by kernel_rfl
theorem bigA (b : Nat) (c : Int) : fcall TF (fexec TF 100000) 5 [.int .i64 (.ofNat (b + 13)), .int .i64 (c)] ⟨[], 0⟩ = some (.bool true, ⟨[], 0⟩) := by
  cases c with
  | ofNat c => exact bigP b c
  | negSucc c => exact bigM b c
theorem fin (a c : Int) : fcall TF (fexec TF 100000) 5 [.int .i64 (a), .int .i64 (c)] ⟨[], 0⟩ = some (.bool true, ⟨[], 0⟩) :=
  cases13 (p := fun a => fcall TF (fexec TF 100000) 5 [.int .i64 (a), .int .i64 (c)] ⟨[], 0⟩ = some (.bool true, ⟨[], 0⟩)) (fun b => negA b c) (zeroA c) (n1 c) (n2 c) (n3 c) (n4 c) (n5 c) (n6 c) (n7 c) (n8 c) (n9 c) (n10 c) (n11 c) (n12 c) (fun b => bigA b c) a
end Go.Proofs.Ytcghfhlmhmnioaa.Cri
