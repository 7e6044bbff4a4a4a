import Derived.Test.YtbmemogajgbdgaaPre
import Derived.Test.YtbmemogajgbdgaaGf
namespace Go.Proofs.Ytbmemogajgbdgaa
open Go.RowKit Go.Gf
def Z63 : Array Value := Array.replicate 510 (.int .u8 0)
theorem zero63 (w : World) : (zeroValue 63).run Try.prog w = .ok (.agg Z63) w := by kernel_rfl
theorem info63 : (Try.prog.info? 63).map (·.size) = some 510 := by kernel_rfl
def Z64 : Array Value := Array.replicate 256 (.int .i64 0)
theorem zero64 (w : World) : (zeroValue 64).run Try.prog w = .ok (.agg Z64) w := by kernel_rfl
theorem info64 : (Try.prog.info? 64).map (·.size) = some 256 := by kernel_rfl
end Go.Proofs.Ytbmemogajgbdgaa
