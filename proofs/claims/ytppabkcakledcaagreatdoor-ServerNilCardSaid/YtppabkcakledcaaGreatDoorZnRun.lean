/- ServerNil, run by the evaluator in the kernel, whatever its arguments. -/
import Derived.Test.YtppabkcakledcaaGreatDoorZnLay
import Derived.Test.YtppabkcakledcaaGreatDoorAkGlue
namespace Go.Proofs.YtppabkcakledcaaGreatDoor.Tab
open Ak Go
set_option maxRecDepth 100000
/-- The variables that are laid: layout.least. -/
def σ0 : H := { next := 4, obs := .nd (.nd .lf (some (.cells (.nd (.nd .lf (some (.int .i64 (.ofNat 2))) .lf) (some (.int .i64 (.ofNat 1))) (.nd .lf (some (.int .i64 (.ofNat 2))) .lf)) [] 0 3 true)) .lf) none .lf, log := [] }
theorem run (n : Int) (k0 : Int) (k1 : Int) (k2 k3 : Int) (k4 k5 : Int) (k6 k7 k8 : Int) (s0 s1 s2 : List Nat) (g s : Int) :
    callF FT SW 1000 100 (.rf 4) [.int .i64 n, .agg [.int .u8 k0, .int .i64 k1, .int .u64 k2, .int .u64 k3, .int .u8 k4, .int .u8 k5, .int .u64 k6, .int .u64 k7, .int .u64 k8, .str s0, .str s1, .str s2], .int .u64 g, .int .u64 s] σ0 isT = some () := by kernel_rfl
#print axioms run
end Go.Proofs.YtppabkcakledcaaGreatDoor.Tab
