import Derived.Test.YtjmkbdbjefcfmaaPre
import Derived.Test.YtjmkbdbjefcfmaaGf
namespace Go.Proofs.Ytjmkbdbjefcfmaa
open Go.RowKit Go.Gf
def Z49 : Array Value := Array.replicate 510 (.int .u8 0)
theorem zero49 (w : World) : (zeroValue 49).run Try.prog w = .ok (.agg Z49) w := by kernel_rfl
theorem info49 : (Try.prog.info? 49).map (·.size) = some 510 := by kernel_rfl
def Z50 : Array Value := Array.replicate 256 (.int .i64 0)
theorem zero50 (w : World) : (zeroValue 50).run Try.prog w = .ok (.agg Z50) w := by kernel_rfl
theorem info50 : (Try.prog.info? 50).map (·.size) = some 256 := by kernel_rfl
end Go.Proofs.Ytjmkbdbjefcfmaa
