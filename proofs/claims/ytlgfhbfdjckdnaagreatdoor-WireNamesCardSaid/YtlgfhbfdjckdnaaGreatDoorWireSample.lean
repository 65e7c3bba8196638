/- The sample that each law asks first, plain (seat wire). -/
import Derived.Test.YtlgfhbfdjckdnaaGreatDoorWireReadP
import Derived.KernelRfl
set_option maxRecDepth 100000
namespace Go.Proofs.YtlgfhbfdjckdnaaGreatDoor
open Go.Lib

def sampleL : List UInt8 := [80, 79, 83, 84, 32, 47, 120, 32, 72, 84, 84, 80, 47, 49, 46, 49, 13, 10, 72, 111, 115, 116, 58, 98, 13, 10, 67, 111, 110, 116, 101, 110, 116, 45, 76, 101, 110, 103, 116, 104, 58, 32, 50, 13, 10, 73, 100, 101, 109, 112, 111, 116, 101, 110, 99, 121, 45, 75, 101, 121, 58, 32, 107, 13, 10, 13, 10, 97, 98, 71, 69, 84, 32, 47, 32, 72, 84, 84, 80, 47, 49, 46, 49, 13, 10, 104, 111, 115, 116, 58, 32, 97, 13, 10, 13, 10]
theorem sample_told : (feedS sampleL).1 = [⟨bytesL [80, 79, 83, 84], bytesL [47, 120], bytesL [107], bytesL [97, 98], 0⟩, ⟨bytesL [71, 69, 84], bytesL [47], bytesL [], bytesL [], 0⟩] := by kernel_rfl
end Go.Proofs.YtlgfhbfdjckdnaaGreatDoor
