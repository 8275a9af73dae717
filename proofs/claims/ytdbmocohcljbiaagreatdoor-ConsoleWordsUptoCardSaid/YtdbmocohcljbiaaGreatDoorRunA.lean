/- Closed runs of the console, by the kernel. -/
import Derived.Test.YtdbmocohcljbiaaGreatDoorTab
namespace Go.Proofs.YtdbmocohcljbiaaGreatDoor
open Go Go.AE Go.Proofs
def h0 : AHp := ⟨.leaf, 7, 7⟩
def liveIn : List UInt8 := [109, 105, 115, 115, 105, 111, 110, 32, 49, 48, 32, 53, 32, 50, 48, 10, 115, 116, 97, 114, 116, 10, 112, 104, 97, 115, 101, 115, 10, 114, 117, 110, 32, 48, 10, 114, 117, 110, 32, 50, 10, 109, 105, 115, 115, 105, 111, 110, 32, 49, 32, 49, 32, 49, 10]
def liveOut : List UInt8 := [111, 107, 10, 115, 116, 97, 114, 116, 101, 100, 32, 48, 32, 48, 10, 48, 32, 48, 32, 48, 32, 48, 32, 48, 32, 48, 10, 101, 114, 114, 111, 114, 32, 51, 10, 116, 105, 99, 107, 32, 50, 10, 101, 114, 114, 111, 114, 32, 49, 52, 10]
def aIn : List UInt8 := [112, 104, 97, 115, 101, 115, 10, 98, 111, 103, 117, 115, 10, 109, 105, 115, 115, 105, 111, 110, 32, 49, 32, 50, 10, 109, 105, 115, 115, 105, 111, 110, 32, 49, 48, 32, 53, 32, 120, 10]
def aOut : List UInt8 := [101, 114, 114, 111, 114, 32, 49, 52, 10, 101, 114, 114, 111, 114, 32, 53, 10, 101, 114, 114, 111, 114, 32, 53, 10, 101, 114, 114, 111, 114, 32, 53, 10]
def bIn : List UInt8 := [112, 114, 111, 103, 114, 97, 109, 32, 49, 32, 51, 48, 10, 112, 114, 111, 103, 114, 97, 109, 32, 65, 10, 110, 111, 110, 115, 101, 110, 115, 101, 10, 46, 10, 115, 116, 97, 114, 116, 10]
def bOut : List UInt8 := [111, 107, 10, 101, 114, 114, 111, 114, 32, 53, 32, 48, 10]
def cIn : List UInt8 := [115, 101, 110, 115, 111, 114, 32, 78, 65, 86, 32, 68, 88, 32, 48, 10, 115, 116, 97, 114, 116, 10]
def cOut : List UInt8 := [111, 107, 10, 101, 114, 114, 111, 114, 32, 55, 32, 48, 10]
theorem run_a : isStr aOut (callVF T (runAF T 100000) 3 h0 (.func (.func 13) [] []) [.str aIn]) = true := by kernel_rfl
theorem run_b : isStr bOut (callVF T (runAF T 100000) 3 h0 (.func (.func 13) [] []) [.str bIn]) = true := by kernel_rfl
theorem run_c : isStr cOut (callVF T (runAF T 100000) 3 h0 (.func (.func 13) [] []) [.str cIn]) = true := by kernel_rfl
end Go.Proofs.YtdbmocohcljbiaaGreatDoor
