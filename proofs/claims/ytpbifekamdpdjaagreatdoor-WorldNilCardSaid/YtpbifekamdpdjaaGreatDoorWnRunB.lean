/- WorldNil, run by the evaluator in the kernel, whatever its arguments. -/
import Derived.Test.YtpbifekamdpdjaaGreatDoorWnWorks
namespace Go.Proofs.YtpbifekamdpdjaaGreatDoor.Tab
open Ak Go
set_option maxRecDepth 100000
set_option maxHeartbeats 100000000 in
theorem run1 (k0 k1 k2 k3 k4 k5 k6 k7 k8 k9 k10 : Int) (s0 s1 s2 : List Nat) (len cap : Nat) (k : Int) :
    callF FT SX 1000 100 (.rf 3) [.agg [.int .u8 k0, .int .i64 k1, .int .u8 k2, .int .i64 k3, .int .u64 k4, .int .u64 k5, .int .u8 k6, .int .u8 k7, .int .u64 k8, .int .u64 k9, .int .u64 k10, .str s0, .str s1, .str s2, .slc 4 0 1 len cap true], .int .i64 k] (σl 5) isT = some () := by kernel_rfl
#print axioms run1
end Go.Proofs.YtpbifekamdpdjaaGreatDoor.Tab
