/- What the law answers at some small arguments, reckoned. Nothing is claimed here; no condition. -/
import Derived.Test.YtcghfhlmhmnioaaTab
namespace Go.Proofs.Ytcghfhlmhmnioaa.Cri
open Go Go.Abs
theorem n10neg (b : Nat) : fcall TF (fexec TF 100000) 5 [.int .i64 (.ofNat 10), .int .i64 (.negSucc b)] ⟨[], 0⟩ = some (.bool true, ⟨[], 0⟩) := by kernel_rfl
theorem n10c0 : fcall TF (fexec TF 100000) 5 [.int .i64 (.ofNat 10), .int .i64 (.ofNat 0)] ⟨[], 0⟩ = some (.bool true, ⟨[], 0⟩) := by kernel_rfl
theorem n10c1 : fcall TF (fexec TF 100000) 5 [.int .i64 (.ofNat 10), .int .i64 (.ofNat 1)] ⟨[], 0⟩ = some (.bool true, ⟨[], 0⟩) := by kernel_rfl
theorem n10c2 : fcall TF (fexec TF 100000) 5 [.int .i64 (.ofNat 10), .int .i64 (.ofNat 2)] ⟨[], 0⟩ = some (.bool true, ⟨[], 0⟩) := by kernel_rfl
theorem n10c3 : fcall TF (fexec TF 100000) 5 [.int .i64 (.ofNat 10), .int .i64 (.ofNat 3)] ⟨[], 0⟩ = some (.bool true, ⟨[], 0⟩) := by kernel_rfl
theorem n10c4 : fcall TF (fexec TF 100000) 5 [.int .i64 (.ofNat 10), .int .i64 (.ofNat 4)] ⟨[], 0⟩ = some (.bool true, ⟨[], 0⟩) := by kernel_rfl
theorem n10c5 : fcall TF (fexec TF 100000) 5 [.int .i64 (.ofNat 10), .int .i64 (.ofNat 5)] ⟨[], 0⟩ = some (.bool true, ⟨[], 0⟩) := by kernel_rfl
theorem n10c6 : fcall TF (fexec TF 100000) 5 [.int .i64 (.ofNat 10), .int .i64 (.ofNat 6)] ⟨[], 0⟩ = some (.bool true, ⟨[], 0⟩) := by kernel_rfl
theorem n10c7 : fcall TF (fexec TF 100000) 5 [.int .i64 (.ofNat 10), .int .i64 (.ofNat 7)] ⟨[], 0⟩ = some (.bool true, ⟨[], 0⟩) := by kernel_rfl
theorem n10c8 : fcall TF (fexec TF 100000) 5 [.int .i64 (.ofNat 10), .int .i64 (.ofNat 8)] ⟨[], 0⟩ = some (.bool true, ⟨[], 0⟩) := by kernel_rfl
theorem n10c9 : fcall TF (fexec TF 100000) 5 [.int .i64 (.ofNat 10), .int .i64 (.ofNat 9)] ⟨[], 0⟩ = some (.bool true, ⟨[], 0⟩) := by kernel_rfl
theorem n10c10 : fcall TF (fexec TF 100000) 5 [.int .i64 (.ofNat 10), .int .i64 (.ofNat 10)] ⟨[], 0⟩ = some (.bool true, ⟨[], 0⟩) := by kernel_rfl
theorem n10c11 : fcall TF (fexec TF 100000) 5 [.int .i64 (.ofNat 10), .int .i64 (.ofNat 11)] ⟨[], 0⟩ = some (.bool true, ⟨[], 0⟩) := by kernel_rfl
theorem n10c12 : fcall TF (fexec TF 100000) 5 [.int .i64 (.ofNat 10), .int .i64 (.ofNat 12)] ⟨[], 0⟩ = some (.bool true, ⟨[], 0⟩) := by kernel_rfl
theorem n10big (b : Nat) : fcall TF (fexec TF 100000) 5 [.int .i64 (.ofNat 10), .int .i64 (.ofNat (b + 13))] ⟨[], 0⟩ = some (.bool true, ⟨[], 0⟩) := by kernel_rfl
end Go.Proofs.Ytcghfhlmhmnioaa.Cri
