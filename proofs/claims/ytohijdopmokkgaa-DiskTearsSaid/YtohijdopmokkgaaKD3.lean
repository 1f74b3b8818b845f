/- The documentation's example of the disk, played. No program. -/
import Derived.Test.YtohijdopmokkgaaKD2
set_option linter.unusedVariables false
set_option linter.unusedSimpArgs false
set_option linter.unusedSectionVars false
namespace Go.Proofs.Ytohijdopmokkgaa
namespace Dk
def x0 : Dk := new 2
def x1 : Dk := x0.write 0 1 [97, 98, 99]
def x2 : Dk := x1.mount [3]
def x3 : Dk := x2.write 1 127 [120]
def x4 : Dk := x3.flush
def x5 : Dk := x4.rot 1 1016
def x6 : Dk := x5.doTrip 1
def x7 : Dk := x6.write 0 0 []
def x8 : Dk := x7.flush
def zs (k : Nat) : Pg := List.replicate k 0
theorem e1 : x0.writeE 0 1 [97, 98, 99] = 0 := by decide +kernel
theorem r1 : x1.readS 0 = [0, 97, 98, 99] ++ zs 124 := by decide +kernel
theorem r1e : x1.readE 0 = 0 := by decide +kernel
theorem i1 : x1.pages = [zs 128, zs 128] := by decide +kernel
theorem p1 : x1.pending = [0] := by decide +kernel
theorem r2 : x2.readS 0 = [0, 97, 98] ++ zs 125 := by decide +kernel
theorem r2e : x2.readE 0 = 0 := by decide +kernel
theorem e3 : x2.writeE 1 127 [120] = 0 := by decide +kernel
theorem e4 : x3.flushE = 0 := by decide +kernel
theorem e5 : x4.rotE 1 1016 = 0 := by decide +kernel
theorem r5 : x5.readS 1 = zs 127 ++ [121] := by decide +kernel
theorem r5e : x5.readE 1 = 0 := by decide +kernel
theorem e7 : x6.writeE 0 0 [] = 0 := by decide +kernel
theorem e8 : x7.flushE = 13 := by decide +kernel
theorem r8e : x8.readE 0 = 13 := by decide +kernel
theorem u8 : x8.off = true := by decide +kernel
theorem n8 : x8.n = 2 := by decide +kernel
theorem e9 : x8.rotE 0 1024 = 1 := by decide +kernel
end Dk
end Go.Proofs.Ytohijdopmokkgaa
