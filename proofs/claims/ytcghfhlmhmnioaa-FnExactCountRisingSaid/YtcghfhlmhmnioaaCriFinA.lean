/- What the law answers at some small arguments, reckoned. Nothing is claimed here; no condition. -/
import Derived.Test.YtcghfhlmhmnioaaTab
namespace Go.Proofs.Ytcghfhlmhmnioaa.Cri
open Go Go.Abs
theorem n1neg (b : Nat) : fcall TF (fexec TF 100000) 5 [.int .i64 (.ofNat 1), .int .i64 (.negSucc b)] ⟨[], 0⟩ = some (.bool true, ⟨[], 0⟩) := by kernel_rfl
theorem n1c0 : fcall TF (fexec TF 100000) 5 [.int .i64 (.ofNat 1), .int .i64 (.ofNat 0)] ⟨[], 0⟩ = some (.bool true, ⟨[], 0⟩) := by kernel_rfl
theorem n1c1 : fcall TF (fexec TF 100000) 5 [.int .i64 (.ofNat 1), .int .i64 (.ofNat 1)] ⟨[], 0⟩ = some (.bool true, ⟨[], 0⟩) := by kernel_rfl
theorem n1c2 : fcall TF (fexec TF 100000) 5 [.int .i64 (.ofNat 1), .int .i64 (.ofNat 2)] ⟨[], 0⟩ = some (.bool true, ⟨[], 0⟩) := by kernel_rfl
theorem n1c3 : fcall TF (fexec TF 100000) 5 [.int .i64 (.ofNat 1), .int .i64 (.ofNat 3)] ⟨[], 0⟩ = some (.bool true, ⟨[], 0⟩) := by kernel_rfl
theorem n1c4 : fcall TF (fexec TF 100000) 5 [.int .i64 (.ofNat 1), .int .i64 (.ofNat 4)] ⟨[], 0⟩ = some (.bool true, ⟨[], 0⟩) := by kernel_rfl
theorem n1c5 : fcall TF (fexec TF 100000) 5 [.int .i64 (.ofNat 1), .int .i64 (.ofNat 5)] ⟨[], 0⟩ = some (.bool true, ⟨[], 0⟩) := by kernel_rfl
theorem n1c6 : fcall TF (fexec TF 100000) 5 [.int .i64 (.ofNat 1), .int .i64 (.ofNat 6)] ⟨[], 0⟩ = some (.bool true, ⟨[], 0⟩) := by kernel_rfl
theorem n1c7 : fcall TF (fexec TF 100000) 5 [.int .i64 (.ofNat 1), .int .i64 (.ofNat 7)] ⟨[], 0⟩ = some (.bool true, ⟨[], 0⟩) := by kernel_rfl
theorem n1c8 : fcall TF (fexec TF 100000) 5 [.int .i64 (.ofNat 1), .int .i64 (.ofNat 8)] ⟨[], 0⟩ = some (.bool true, ⟨[], 0⟩) := by kernel_rfl
theorem n1c9 : fcall TF (fexec TF 100000) 5 [.int .i64 (.ofNat 1), .int .i64 (.ofNat 9)] ⟨[], 0⟩ = some (.bool true, ⟨[], 0⟩) := by kernel_rfl
theorem n1c10 : fcall TF (fexec TF 100000) 5 [.int .i64 (.ofNat 1), .int .i64 (.ofNat 10)] ⟨[], 0⟩ = some (.bool true, ⟨[], 0⟩) := by kernel_rfl
theorem n1c11 : fcall TF (fexec TF 100000) 5 [.int .i64 (.ofNat 1), .int .i64 (.ofNat 11)] ⟨[], 0⟩ = some (.bool true, ⟨[], 0⟩) := by kernel_rfl
theorem n1c12 : fcall TF (fexec TF 100000) 5 [.int .i64 (.ofNat 1), .int .i64 (.ofNat 12)] ⟨[], 0⟩ = some (.bool true, ⟨[], 0⟩) := by kernel_rfl
theorem n1big (b : Nat) : fcall TF (fexec TF 100000) 5 [.int .i64 (.ofNat 1), .int .i64 (.ofNat (b + 13))] ⟨[], 0⟩ = some (.bool true, ⟨[], 0⟩) := by kernel_rfl
theorem n2neg (b : Nat) : fcall TF (fexec TF 100000) 5 [.int .i64 (.ofNat 2), .int .i64 (.negSucc b)] ⟨[], 0⟩ = some (.bool true, ⟨[], 0⟩) := by kernel_rfl
theorem n2c0 : fcall TF (fexec TF 100000) 5 [.int .i64 (.ofNat 2), .int .i64 (.ofNat 0)] ⟨[], 0⟩ = some (.bool true, ⟨[], 0⟩) := by kernel_rfl
theorem n2c1 : fcall TF (fexec TF 100000) 5 [.int .i64 (.ofNat 2), .int .i64 (.ofNat 1)] ⟨[], 0⟩ = some (.bool true, ⟨[], 0⟩) := by kernel_rfl
theorem n2c2 : fcall TF (fexec TF 100000) 5 [.int .i64 (.ofNat 2), .int .i64 (.ofNat 2)] ⟨[], 0⟩ = some (.bool true, ⟨[], 0⟩) := by kernel_rfl
theorem n2c3 : fcall TF (fexec TF 100000) 5 [.int .i64 (.ofNat 2), .int .i64 (.ofNat 3)] ⟨[], 0⟩ = some (.bool true, ⟨[], 0⟩) := by kernel_rfl
theorem n2c4 : fcall TF (fexec TF 100000) 5 [.int .i64 (.ofNat 2), .int .i64 (.ofNat 4)] ⟨[], 0⟩ = some (.bool true, ⟨[], 0⟩) := by kernel_rfl
theorem n2c5 : fcall TF (fexec TF 100000) 5 [.int .i64 (.ofNat 2), .int .i64 (.ofNat 5)] ⟨[], 0⟩ = some (.bool true, ⟨[], 0⟩) := by kernel_rfl
theorem n2c6 : fcall TF (fexec TF 100000) 5 [.int .i64 (.ofNat 2), .int .i64 (.ofNat 6)] ⟨[], 0⟩ = some (.bool true, ⟨[], 0⟩) := by kernel_rfl
theorem n2c7 : fcall TF (fexec TF 100000) 5 [.int .i64 (.ofNat 2), .int .i64 (.ofNat 7)] ⟨[], 0⟩ = some (.bool true, ⟨[], 0⟩) := by kernel_rfl
theorem n2c8 : fcall TF (fexec TF 100000) 5 [.int .i64 (.ofNat 2), .int .i64 (.ofNat 8)] ⟨[], 0⟩ = some (.bool true, ⟨[], 0⟩) := by kernel_rfl
theorem n2c9 : fcall TF (fexec TF 100000) 5 [.int .i64 (.ofNat 2), .int .i64 (.ofNat 9)] ⟨[], 0⟩ = some (.bool true, ⟨[], 0⟩) := by kernel_rfl
theorem n2c10 : fcall TF (fexec TF 100000) 5 [.int .i64 (.ofNat 2), .int .i64 (.ofNat 10)] ⟨[], 0⟩ = some (.bool true, ⟨[], 0⟩) := by kernel_rfl
theorem n2c11 : fcall TF (fexec TF 100000) 5 [.int .i64 (.ofNat 2), .int .i64 (.ofNat 11)] ⟨[], 0⟩ = some (.bool true, ⟨[], 0⟩) := by kernel_rfl
theorem n2c12 : fcall TF (fexec TF 100000) 5 [.int .i64 (.ofNat 2), .int .i64 (.ofNat 12)] ⟨[], 0⟩ = some (.bool true, ⟨[], 0⟩) := by kernel_rfl
theorem n2big (b : Nat) : fcall TF (fexec TF 100000) 5 [.int .i64 (.ofNat 2), .int .i64 (.ofNat (b + 13))] ⟨[], 0⟩ = some (.bool true, ⟨[], 0⟩) := by kernel_rfl
theorem n3neg (b : Nat) : fcall TF (fexec TF 100000) 5 [.int .i64 (.ofNat 3), .int .i64 (.negSucc b)] ⟨[], 0⟩ = some (.bool true, ⟨[], 0⟩) := by kernel_rfl
theorem n3c0 : fcall TF (fexec TF 100000) 5 [.int .i64 (.ofNat 3), .int .i64 (.ofNat 0)] ⟨[], 0⟩ = some (.bool true, ⟨[], 0⟩) := by kernel_rfl
theorem n3c1 : fcall TF (fexec TF 100000) 5 [.int .i64 (.ofNat 3), .int .i64 (.ofNat 1)] ⟨[], 0⟩ = some (.bool true, ⟨[], 0⟩) := by kernel_rfl
theorem n3c2 : fcall TF (fexec TF 100000) 5 [.int .i64 (.ofNat 3), .int .i64 (.ofNat 2)] ⟨[], 0⟩ = some (.bool true, ⟨[], 0⟩) := by kernel_rfl
theorem n3c3 : fcall TF (fexec TF 100000) 5 [.int .i64 (.ofNat 3), .int .i64 (.ofNat 3)] ⟨[], 0⟩ = some (.bool true, ⟨[], 0⟩) := by kernel_rfl
theorem n3c4 : fcall TF (fexec TF 100000) 5 [.int .i64 (.ofNat 3), .int .i64 (.ofNat 4)] ⟨[], 0⟩ = some (.bool true, ⟨[], 0⟩) := by kernel_rfl
theorem n3c5 : fcall TF (fexec TF 100000) 5 [.int .i64 (.ofNat 3), .int .i64 (.ofNat 5)] ⟨[], 0⟩ = some (.bool true, ⟨[], 0⟩) := by kernel_rfl
theorem n3c6 : fcall TF (fexec TF 100000) 5 [.int .i64 (.ofNat 3), .int .i64 (.ofNat 6)] ⟨[], 0⟩ = some (.bool true, ⟨[], 0⟩) := by kernel_rfl
theorem n3c7 : fcall TF (fexec TF 100000) 5 [.int .i64 (.ofNat 3), .int .i64 (.ofNat 7)] ⟨[], 0⟩ = some (.bool true, ⟨[], 0⟩) := by kernel_rfl
theorem n3c8 : fcall TF (fexec TF 100000) 5 [.int .i64 (.ofNat 3), .int .i64 (.ofNat 8)] ⟨[], 0⟩ = some (.bool true, ⟨[], 0⟩) := by kernel_rfl
theorem n3c9 : fcall TF (fexec TF 100000) 5 [.int .i64 (.ofNat 3), .int .i64 (.ofNat 9)] ⟨[], 0⟩ = some (.bool true, ⟨[], 0⟩) := by kernel_rfl
theorem n3c10 : fcall TF (fexec TF 100000) 5 [.int .i64 (.ofNat 3), .int .i64 (.ofNat 10)] ⟨[], 0⟩ = some (.bool true, ⟨[], 0⟩) := by kernel_rfl
theorem n3c11 : fcall TF (fexec TF 100000) 5 [.int .i64 (.ofNat 3), .int .i64 (.ofNat 11)] ⟨[], 0⟩ = some (.bool true, ⟨[], 0⟩) := by kernel_rfl
theorem n3c12 : fcall TF (fexec TF 100000) 5 [.int .i64 (.ofNat 3), .int .i64 (.ofNat 12)] ⟨[], 0⟩ = some (.bool true, ⟨[], 0⟩) := by kernel_rfl
theorem n3big (b : Nat) : fcall TF (fexec TF 100000) 5 [.int .i64 (.ofNat 3), .int .i64 (.ofNat (b + 13))] ⟨[], 0⟩ = some (.bool true, ⟨[], 0⟩) := by kernel_rfl
theorem n4neg (b : Nat) : fcall TF (fexec TF 100000) 5 [.int .i64 (.ofNat 4), .int .i64 (.negSucc b)] ⟨[], 0⟩ = some (.bool true, ⟨[], 0⟩) := by kernel_rfl
theorem n4c0 : fcall TF (fexec TF 100000) 5 [.int .i64 (.ofNat 4), .int .i64 (.ofNat 0)] ⟨[], 0⟩ = some (.bool true, ⟨[], 0⟩) := by kernel_rfl
theorem n4c1 : fcall TF (fexec TF 100000) 5 [.int .i64 (.ofNat 4), .int .i64 (.ofNat 1)] ⟨[], 0⟩ = some (.bool true, ⟨[], 0⟩) := by kernel_rfl
theorem n4c2 : fcall TF (fexec TF 100000) 5 [.int .i64 (.ofNat 4), .int .i64 (.ofNat 2)] ⟨[], 0⟩ = some (.bool true, ⟨[], 0⟩) := by kernel_rfl
theorem n4c3 : fcall TF (fexec TF 100000) 5 [.int .i64 (.ofNat 4), .int .i64 (.ofNat 3)] ⟨[], 0⟩ = some (.bool true, ⟨[], 0⟩) := by kernel_rfl
theorem n4c4 : fcall TF (fexec TF 100000) 5 [.int .i64 (.ofNat 4), .int .i64 (.ofNat 4)] ⟨[], 0⟩ = some (.bool true, ⟨[], 0⟩) := by kernel_rfl
theorem n4c5 : fcall TF (fexec TF 100000) 5 [.int .i64 (.ofNat 4), .int .i64 (.ofNat 5)] ⟨[], 0⟩ = some (.bool true, ⟨[], 0⟩) := by kernel_rfl
theorem n4c6 : fcall TF (fexec TF 100000) 5 [.int .i64 (.ofNat 4), .int .i64 (.ofNat 6)] ⟨[], 0⟩ = some (.bool true, ⟨[], 0⟩) := by kernel_rfl
theorem n4c7 : fcall TF (fexec TF 100000) 5 [.int .i64 (.ofNat 4), .int .i64 (.ofNat 7)] ⟨[], 0⟩ = some (.bool true, ⟨[], 0⟩) := by kernel_rfl
theorem n4c8 : fcall TF (fexec TF 100000) 5 [.int .i64 (.ofNat 4), .int .i64 (.ofNat 8)] ⟨[], 0⟩ = some (.bool true, ⟨[], 0⟩) := by kernel_rfl
theorem n4c9 : fcall TF (fexec TF 100000) 5 [.int .i64 (.ofNat 4), .int .i64 (.ofNat 9)] ⟨[], 0⟩ = some (.bool true, ⟨[], 0⟩) := by kernel_rfl
theorem n4c10 : fcall TF (fexec TF 100000) 5 [.int .i64 (.ofNat 4), .int .i64 (.ofNat 10)] ⟨[], 0⟩ = some (.bool true, ⟨[], 0⟩) := by kernel_rfl
theorem n4c11 : fcall TF (fexec TF 100000) 5 [.int .i64 (.ofNat 4), .int .i64 (.ofNat 11)] ⟨[], 0⟩ = some (.bool true, ⟨[], 0⟩) := by kernel_rfl
theorem n4c12 : fcall TF (fexec TF 100000) 5 [.int .i64 (.ofNat 4), .int .i64 (.ofNat 12)] ⟨[], 0⟩ = some (.bool true, ⟨[], 0⟩) := by kernel_rfl
theorem n4big (b : Nat) : fcall TF (fexec TF 100000) 5 [.int .i64 (.ofNat 4), .int .i64 (.ofNat (b + 13))] ⟨[], 0⟩ = some (.bool true, ⟨[], 0⟩) := by kernel_rfl
theorem n5neg (b : Nat) : fcall TF (fexec TF 100000) 5 [.int .i64 (.ofNat 5), .int .i64 (.negSucc b)] ⟨[], 0⟩ = some (.bool true, ⟨[], 0⟩) := by kernel_rfl
theorem n5c0 : fcall TF (fexec TF 100000) 5 [.int .i64 (.ofNat 5), .int .i64 (.ofNat 0)] ⟨[], 0⟩ = some (.bool true, ⟨[], 0⟩) := by kernel_rfl
theorem n5c1 : fcall TF (fexec TF 100000) 5 [.int .i64 (.ofNat 5), .int .i64 (.ofNat 1)] ⟨[], 0⟩ = some (.bool true, ⟨[], 0⟩) := by kernel_rfl
theorem n5c2 : fcall TF (fexec TF 100000) 5 [.int .i64 (.ofNat 5), .int .i64 (.ofNat 2)] ⟨[], 0⟩ = some (.bool true, ⟨[], 0⟩) := by kernel_rfl
theorem n5c3 : fcall TF (fexec TF 100000) 5 [.int .i64 (.ofNat 5), .int .i64 (.ofNat 3)] ⟨[], 0⟩ = some (.bool true, ⟨[], 0⟩) := by kernel_rfl
theorem n5c4 : fcall TF (fexec TF 100000) 5 [.int .i64 (.ofNat 5), .int .i64 (.ofNat 4)] ⟨[], 0⟩ = some (.bool true, ⟨[], 0⟩) := by kernel_rfl
theorem n5c5 : fcall TF (fexec TF 100000) 5 [.int .i64 (.ofNat 5), .int .i64 (.ofNat 5)] ⟨[], 0⟩ = some (.bool true, ⟨[], 0⟩) := by kernel_rfl
theorem n5c6 : fcall TF (fexec TF 100000) 5 [.int .i64 (.ofNat 5), .int .i64 (.ofNat 6)] ⟨[], 0⟩ = some (.bool true, ⟨[], 0⟩) := by kernel_rfl
theorem n5c7 : fcall TF (fexec TF 100000) 5 [.int .i64 (.ofNat 5), .int .i64 (.ofNat 7)] ⟨[], 0⟩ = some (.bool true, ⟨[], 0⟩) := by kernel_rfl
theorem n5c8 : fcall TF (fexec TF 100000) 5 [.int .i64 (.ofNat 5), .int .i64 (.ofNat 8)] ⟨[], 0⟩ = some (.bool true, ⟨[], 0⟩) := by kernel_rfl
theorem n5c9 : fcall TF (fexec TF 100000) 5 [.int .i64 (.ofNat 5), .int .i64 (.ofNat 9)] ⟨[], 0⟩ = some (.bool true, ⟨[], 0⟩) := by kernel_rfl
theorem n5c10 : fcall TF (fexec TF 100000) 5 [.int .i64 (.ofNat 5), .int .i64 (.ofNat 10)] ⟨[], 0⟩ = some (.bool true, ⟨[], 0⟩) := by kernel_rfl
theorem n5c11 : fcall TF (fexec TF 100000) 5 [.int .i64 (.ofNat 5), .int .i64 (.ofNat 11)] ⟨[], 0⟩ = some (.bool true, ⟨[], 0⟩) := by kernel_rfl
theorem n5c12 : fcall TF (fexec TF 100000) 5 [.int .i64 (.ofNat 5), .int .i64 (.ofNat 12)] ⟨[], 0⟩ = some (.bool true, ⟨[], 0⟩) := by kernel_rfl
theorem n5big (b : Nat) : fcall TF (fexec TF 100000) 5 [.int .i64 (.ofNat 5), .int .i64 (.ofNat (b + 13))] ⟨[], 0⟩ = some (.bool true, ⟨[], 0⟩) := by kernel_rfl
theorem n6neg (b : Nat) : fcall TF (fexec TF 100000) 5 [.int .i64 (.ofNat 6), .int .i64 (.negSucc b)] ⟨[], 0⟩ = some (.bool true, ⟨[], 0⟩) := by kernel_rfl
theorem n6c0 : fcall TF (fexec TF 100000) 5 [.int .i64 (.ofNat 6), .int .i64 (.ofNat 0)] ⟨[], 0⟩ = some (.bool true, ⟨[], 0⟩) := by kernel_rfl
theorem n6c1 : fcall TF (fexec TF 100000) 5 [.int .i64 (.ofNat 6), .int .i64 (.ofNat 1)] ⟨[], 0⟩ = some (.bool true, ⟨[], 0⟩) := by kernel_rfl
theorem n6c2 : fcall TF (fexec TF 100000) 5 [.int .i64 (.ofNat 6), .int .i64 (.ofNat 2)] ⟨[], 0⟩ = some (.bool true, ⟨[], 0⟩) := by kernel_rfl
theorem n6c3 : fcall TF (fexec TF 100000) 5 [.int .i64 (.ofNat 6), .int .i64 (.ofNat 3)] ⟨[], 0⟩ = some (.bool true, ⟨[], 0⟩) := by kernel_rfl
theorem n6c4 : fcall TF (fexec TF 100000) 5 [.int .i64 (.ofNat 6), .int .i64 (.ofNat 4)] ⟨[], 0⟩ = some (.bool true, ⟨[], 0⟩) := by kernel_rfl
theorem n6c5 : fcall TF (fexec TF 100000) 5 [.int .i64 (.ofNat 6), .int .i64 (.ofNat 5)] ⟨[], 0⟩ = some (.bool true, ⟨[], 0⟩) := by kernel_rfl
theorem n6c6 : fcall TF (fexec TF 100000) 5 [.int .i64 (.ofNat 6), .int .i64 (.ofNat 6)] ⟨[], 0⟩ = some (.bool true, ⟨[], 0⟩) := by kernel_rfl
theorem n6c7 : fcall TF (fexec TF 100000) 5 [.int .i64 (.ofNat 6), .int .i64 (.ofNat 7)] ⟨[], 0⟩ = some (.bool true, ⟨[], 0⟩) := by kernel_rfl
theorem n6c8 : fcall TF (fexec TF 100000) 5 [.int .i64 (.ofNat 6), .int .i64 (.ofNat 8)] ⟨[], 0⟩ = some (.bool true, ⟨[], 0⟩) := by kernel_rfl
theorem n6c9 : fcall TF (fexec TF 100000) 5 [.int .i64 (.ofNat 6), .int .i64 (.ofNat 9)] ⟨[], 0⟩ = some (.bool true, ⟨[], 0⟩) := by kernel_rfl
theorem n6c10 : fcall TF (fexec TF 100000) 5 [.int .i64 (.ofNat 6), .int .i64 (.ofNat 10)] ⟨[], 0⟩ = some (.bool true, ⟨[], 0⟩) := by kernel_rfl
theorem n6c11 : fcall TF (fexec TF 100000) 5 [.int .i64 (.ofNat 6), .int .i64 (.ofNat 11)] ⟨[], 0⟩ = some (.bool true, ⟨[], 0⟩) := by kernel_rfl
theorem n6c12 : fcall TF (fexec TF 100000) 5 [.int .i64 (.ofNat 6), .int .i64 (.ofNat 12)] ⟨[], 0⟩ = some (.bool true, ⟨[], 0⟩) := by kernel_rfl
theorem n6big (b : Nat) : fcall TF (fexec TF 100000) 5 [.int .i64 (.ofNat 6), .int .i64 (.ofNat (b + 13))] ⟨[], 0⟩ = some (.bool true, ⟨[], 0⟩) := by kernel_rfl
theorem n7neg (b : Nat) : fcall TF (fexec TF 100000) 5 [.int .i64 (.ofNat 7), .int .i64 (.negSucc b)] ⟨[], 0⟩ = some (.bool true, ⟨[], 0⟩) := by kernel_rfl
theorem n7c0 : fcall TF (fexec TF 100000) 5 [.int .i64 (.ofNat 7), .int .i64 (.ofNat 0)] ⟨[], 0⟩ = some (.bool true, ⟨[], 0⟩) := by kernel_rfl
theorem n7c1 : fcall TF (fexec TF 100000) 5 [.int .i64 (.ofNat 7), .int .i64 (.ofNat 1)] ⟨[], 0⟩ = some (.bool true, ⟨[], 0⟩) := by kernel_rfl
theorem n7c2 : fcall TF (fexec TF 100000) 5 [.int .i64 (.ofNat 7), .int .i64 (.ofNat 2)] ⟨[], 0⟩ = some (.bool true, ⟨[], 0⟩) := by kernel_rfl
theorem n7c3 : fcall TF (fexec TF 100000) 5 [.int .i64 (.ofNat 7), .int .i64 (.ofNat 3)] ⟨[], 0⟩ = some (.bool true, ⟨[], 0⟩) := by kernel_rfl
theorem n7c4 : fcall TF (fexec TF 100000) 5 [.int .i64 (.ofNat 7), .int .i64 (.ofNat 4)] ⟨[], 0⟩ = some (.bool true, ⟨[], 0⟩) := by kernel_rfl
theorem n7c5 : fcall TF (fexec TF 100000) 5 [.int .i64 (.ofNat 7), .int .i64 (.ofNat 5)] ⟨[], 0⟩ = some (.bool true, ⟨[], 0⟩) := by kernel_rfl
theorem n7c6 : fcall TF (fexec TF 100000) 5 [.int .i64 (.ofNat 7), .int .i64 (.ofNat 6)] ⟨[], 0⟩ = some (.bool true, ⟨[], 0⟩) := by kernel_rfl
theorem n7c7 : fcall TF (fexec TF 100000) 5 [.int .i64 (.ofNat 7), .int .i64 (.ofNat 7)] ⟨[], 0⟩ = some (.bool true, ⟨[], 0⟩) := by kernel_rfl
theorem n7c8 : fcall TF (fexec TF 100000) 5 [.int .i64 (.ofNat 7), .int .i64 (.ofNat 8)] ⟨[], 0⟩ = some (.bool true, ⟨[], 0⟩) := by kernel_rfl
theorem n7c9 : fcall TF (fexec TF 100000) 5 [.int .i64 (.ofNat 7), .int .i64 (.ofNat 9)] ⟨[], 0⟩ = some (.bool true, ⟨[], 0⟩) := by kernel_rfl
theorem n7c10 : fcall TF (fexec TF 100000) 5 [.int .i64 (.ofNat 7), .int .i64 (.ofNat 10)] ⟨[], 0⟩ = some (.bool true, ⟨[], 0⟩) := by kernel_rfl
theorem n7c11 : fcall TF (fexec TF 100000) 5 [.int .i64 (.ofNat 7), .int .i64 (.ofNat 11)] ⟨[], 0⟩ = some (.bool true, ⟨[], 0⟩) := by kernel_rfl
theorem n7c12 : fcall TF (fexec TF 100000) 5 [.int .i64 (.ofNat 7), .int .i64 (.ofNat 12)] ⟨[], 0⟩ = some (.bool true, ⟨[], 0⟩) := by kernel_rfl
theorem n7big (b : Nat) : fcall TF (fexec TF 100000) 5 [.int .i64 (.ofNat 7), .int .i64 (.ofNat (b + 13))] ⟨[], 0⟩ = some (.bool true, ⟨[], 0⟩) := by kernel_rfl
end Go.Proofs.Ytcghfhlmhmnioaa.Cri
