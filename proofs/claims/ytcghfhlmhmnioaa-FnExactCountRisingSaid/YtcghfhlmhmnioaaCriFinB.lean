/- What the law answers at some small arguments, reckoned. Nothing is claimed here; no condition. -/
import Derived.Test.YtcghfhlmhmnioaaTab
namespace Go.Proofs.Ytcghfhlmhmnioaa.Cri
open Go Go.Abs
theorem n8neg (b : Nat) : fcall TF (fexec TF 100000) 5 [.int .i64 (.ofNat 8), .int .i64 (.negSucc b)] ⟨[], 0⟩ = some (.bool true, ⟨[], 0⟩) := by kernel_rfl
theorem n8c0 : fcall TF (fexec TF 100000) 5 [.int .i64 (.ofNat 8), .int .i64 (.ofNat 0)] ⟨[], 0⟩ = some (.bool true, ⟨[], 0⟩) := by kernel_rfl
theorem n8c1 : fcall TF (fexec TF 100000) 5 [.int .i64 (.ofNat 8), .int .i64 (.ofNat 1)] ⟨[], 0⟩ = some (.bool true, ⟨[], 0⟩) := by kernel_rfl
theorem n8c2 : fcall TF (fexec TF 100000) 5 [.int .i64 (.ofNat 8), .int .i64 (.ofNat 2)] ⟨[], 0⟩ = some (.bool true, ⟨[], 0⟩) := by kernel_rfl
theorem n8c3 : fcall TF (fexec TF 100000) 5 [.int .i64 (.ofNat 8), .int .i64 (.ofNat 3)] ⟨[], 0⟩ = some (.bool true, ⟨[], 0⟩) := by kernel_rfl
theorem n8c4 : fcall TF (fexec TF 100000) 5 [.int .i64 (.ofNat 8), .int .i64 (.ofNat 4)] ⟨[], 0⟩ = some (.bool true, ⟨[], 0⟩) := by kernel_rfl
theorem n8c5 : fcall TF (fexec TF 100000) 5 [.int .i64 (.ofNat 8), .int .i64 (.ofNat 5)] ⟨[], 0⟩ = some (.bool true, ⟨[], 0⟩) := by kernel_rfl
theorem n8c6 : fcall TF (fexec TF 100000) 5 [.int .i64 (.ofNat 8), .int .i64 (.ofNat 6)] ⟨[], 0⟩ = some (.bool true, ⟨[], 0⟩) := by kernel_rfl
theorem n8c7 : fcall TF (fexec TF 100000) 5 [.int .i64 (.ofNat 8), .int .i64 (.ofNat 7)] ⟨[], 0⟩ = some (.bool true, ⟨[], 0⟩) := by kernel_rfl
theorem n8c8 : fcall TF (fexec TF 100000) 5 [.int .i64 (.ofNat 8), .int .i64 (.ofNat 8)] ⟨[], 0⟩ = some (.bool true, ⟨[], 0⟩) := by kernel_rfl
theorem n8c9 : fcall TF (fexec TF 100000) 5 [.int .i64 (.ofNat 8), .int .i64 (.ofNat 9)] ⟨[], 0⟩ = some (.bool true, ⟨[], 0⟩) := by kernel_rfl
theorem n8c10 : fcall TF (fexec TF 100000) 5 [.int .i64 (.ofNat 8), .int .i64 (.ofNat 10)] ⟨[], 0⟩ = some (.bool true, ⟨[], 0⟩) := by kernel_rfl
theorem n8c11 : fcall TF (fexec TF 100000) 5 [.int .i64 (.ofNat 8), .int .i64 (.ofNat 11)] ⟨[], 0⟩ = some (.bool true, ⟨[], 0⟩) := by kernel_rfl
theorem n8c12 : fcall TF (fexec TF 100000) 5 [.int .i64 (.ofNat 8), .int .i64 (.ofNat 12)] ⟨[], 0⟩ = some (.bool true, ⟨[], 0⟩) := by kernel_rfl
theorem n8big (b : Nat) : fcall TF (fexec TF 100000) 5 [.int .i64 (.ofNat 8), .int .i64 (.ofNat (b + 13))] ⟨[], 0⟩ = some (.bool true, ⟨[], 0⟩) := by kernel_rfl
theorem n9neg (b : Nat) : fcall TF (fexec TF 100000) 5 [.int .i64 (.ofNat 9), .int .i64 (.negSucc b)] ⟨[], 0⟩ = some (.bool true, ⟨[], 0⟩) := by kernel_rfl
theorem n9c0 : fcall TF (fexec TF 100000) 5 [.int .i64 (.ofNat 9), .int .i64 (.ofNat 0)] ⟨[], 0⟩ = some (.bool true, ⟨[], 0⟩) := by kernel_rfl
theorem n9c1 : fcall TF (fexec TF 100000) 5 [.int .i64 (.ofNat 9), .int .i64 (.ofNat 1)] ⟨[], 0⟩ = some (.bool true, ⟨[], 0⟩) := by kernel_rfl
theorem n9c2 : fcall TF (fexec TF 100000) 5 [.int .i64 (.ofNat 9), .int .i64 (.ofNat 2)] ⟨[], 0⟩ = some (.bool true, ⟨[], 0⟩) := by kernel_rfl
theorem n9c3 : fcall TF (fexec TF 100000) 5 [.int .i64 (.ofNat 9), .int .i64 (.ofNat 3)] ⟨[], 0⟩ = some (.bool true, ⟨[], 0⟩) := by kernel_rfl
theorem n9c4 : fcall TF (fexec TF 100000) 5 [.int .i64 (.ofNat 9), .int .i64 (.ofNat 4)] ⟨[], 0⟩ = some (.bool true, ⟨[], 0⟩) := by kernel_rfl
theorem n9c5 : fcall TF (fexec TF 100000) 5 [.int .i64 (.ofNat 9), .int .i64 (.ofNat 5)] ⟨[], 0⟩ = some (.bool true, ⟨[], 0⟩) := by kernel_rfl
theorem n9c6 : fcall TF (fexec TF 100000) 5 [.int .i64 (.ofNat 9), .int .i64 (.ofNat 6)] ⟨[], 0⟩ = some (.bool true, ⟨[], 0⟩) := by kernel_rfl
theorem n9c7 : fcall TF (fexec TF 100000) 5 [.int .i64 (.ofNat 9), .int .i64 (.ofNat 7)] ⟨[], 0⟩ = some (.bool true, ⟨[], 0⟩) := by kernel_rfl
theorem n9c8 : fcall TF (fexec TF 100000) 5 [.int .i64 (.ofNat 9), .int .i64 (.ofNat 8)] ⟨[], 0⟩ = some (.bool true, ⟨[], 0⟩) := by kernel_rfl
theorem n9c9 : fcall TF (fexec TF 100000) 5 [.int .i64 (.ofNat 9), .int .i64 (.ofNat 9)] ⟨[], 0⟩ = some (.bool true, ⟨[], 0⟩) := by kernel_rfl
theorem n9c10 : fcall TF (fexec TF 100000) 5 [.int .i64 (.ofNat 9), .int .i64 (.ofNat 10)] ⟨[], 0⟩ = some (.bool true, ⟨[], 0⟩) := by kernel_rfl
theorem n9c11 : fcall TF (fexec TF 100000) 5 [.int .i64 (.ofNat 9), .int .i64 (.ofNat 11)] ⟨[], 0⟩ = some (.bool true, ⟨[], 0⟩) := by kernel_rfl
theorem n9c12 : fcall TF (fexec TF 100000) 5 [.int .i64 (.ofNat 9), .int .i64 (.ofNat 12)] ⟨[], 0⟩ = some (.bool true, ⟨[], 0⟩) := by kernel_rfl
theorem n9big (b : Nat) : fcall TF (fexec TF 100000) 5 [.int .i64 (.ofNat 9), .int .i64 (.ofNat (b + 13))] ⟨[], 0⟩ = some (.bool true, ⟨[], 0⟩) := by kernel_rfl
end Go.Proofs.Ytcghfhlmhmnioaa.Cri
