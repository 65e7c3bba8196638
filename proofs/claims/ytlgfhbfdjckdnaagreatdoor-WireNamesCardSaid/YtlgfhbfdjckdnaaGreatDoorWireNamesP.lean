/- The texts of the law WireNames, and what is told of each (printed by gen_wirenames.py; seat wirez). -/
import Derived.Test.YtlgfhbfdjckdnaaGreatDoorWireEndsP
import Derived.Test.YtlgfhbfdjckdnaaGreatDoorWireSplitP
import Derived.KernelRfl
set_option maxRecDepth 100000
namespace Go.Proofs.YtlgfhbfdjckdnaaGreatDoor
open Go.Lib

def namesT : List (ByteArray × Int) := [((⟨#[71, 69, 84, 32, 47, 32, 72, 84, 84, 80, 47, 49, 46, 49]⟩ : ByteArray) ++ (⟨#[13, 10, 13, 10]⟩ : ByteArray), 400),
  ((⟨#[71, 69, 84, 32, 47, 32, 72, 84, 84, 80, 47, 49, 46, 48]⟩ : ByteArray) ++ (⟨#[13, 10, 104, 111, 115, 116, 58, 32, 97]⟩ : ByteArray) ++ (⟨#[13, 10, 13, 10]⟩ : ByteArray), 505),
  ((⟨#[71, 69, 84, 32, 47, 32, 72, 84, 84, 80, 47, 49, 46, 48]⟩ : ByteArray) ++ (⟨#[13, 10, 13, 10]⟩ : ByteArray), 505),
  ((⟨#[71, 69, 84, 32, 47, 32, 72, 84, 84, 80, 47, 49, 49]⟩ : ByteArray) ++ (⟨#[13, 10, 104, 111, 115, 116, 58, 32, 97]⟩ : ByteArray) ++ (⟨#[13, 10, 13, 10]⟩ : ByteArray), 400),
  ((⟨#[103, 101, 116, 32, 47, 32, 72, 84, 84, 80, 47, 49, 46, 49]⟩ : ByteArray) ++ (⟨#[13, 10, 104, 111, 115, 116, 58, 32, 97]⟩ : ByteArray) ++ (⟨#[13, 10, 13, 10]⟩ : ByteArray), 400),
  ((⟨#[71, 69, 84, 32, 120, 32, 72, 84, 84, 80, 47, 49, 46, 49]⟩ : ByteArray) ++ (⟨#[13, 10, 104, 111, 115, 116, 58, 32, 97]⟩ : ByteArray) ++ (⟨#[13, 10, 13, 10]⟩ : ByteArray), 400),
  ((⟨#[71, 69, 84, 32, 32, 47, 32, 72, 84, 84, 80, 47, 49, 46, 49]⟩ : ByteArray) ++ (⟨#[13, 10, 104, 111, 115, 116, 58, 32, 97]⟩ : ByteArray) ++ (⟨#[13, 10, 13, 10]⟩ : ByteArray), 400),
  ((⟨#[71, 69, 84, 32, 47, 32, 72, 84, 84, 80, 47, 49, 46, 49]⟩ : ByteArray) ++ (⟨#[13, 10, 104, 111, 115, 116, 58, 32, 97]⟩ : ByteArray) ++ (⟨#[13, 10, 104, 111, 115, 116, 58, 32, 97]⟩ : ByteArray) ++ (⟨#[13, 10, 13, 10]⟩ : ByteArray), 400),
  ((⟨#[71, 69, 84, 32, 47, 32, 72, 84, 84, 80, 47, 49, 46, 49]⟩ : ByteArray) ++ (⟨#[13, 10, 104, 111, 115, 116, 58, 32, 97]⟩ : ByteArray) ++ (⟨#[13, 10, 99, 111, 110, 116, 101, 110, 116, 45, 108, 101, 110, 103, 116, 104, 58, 32, 54, 53, 53, 51, 55]⟩ : ByteArray) ++ (⟨#[13, 10, 13, 10]⟩ : ByteArray), 413),
  ((⟨#[71, 69, 84, 32, 47, 32, 72, 84, 84, 80, 47, 49, 46, 49]⟩ : ByteArray) ++ (⟨#[13, 10, 104, 111, 115, 116, 58, 32, 97]⟩ : ByteArray) ++ (⟨#[13, 10, 99, 111, 110, 116, 101, 110, 116, 45, 108, 101, 110, 103, 116, 104, 58, 32, 48, 49]⟩ : ByteArray) ++ (⟨#[13, 10, 13, 10]⟩ : ByteArray), 400),
  ((⟨#[71, 69, 84, 32, 47, 32, 72, 84, 84, 80, 47, 49, 46, 49]⟩ : ByteArray) ++ (⟨#[13, 10, 104, 111, 115, 116, 58, 32, 97]⟩ : ByteArray) ++ (⟨#[13, 10, 99, 111, 110, 116, 101, 110, 116, 45, 108, 101, 110, 103, 116, 104, 58, 32, 49, 13, 10, 67, 79, 78, 84, 69, 78, 84, 45, 76, 69, 78, 71, 84, 72, 58, 32, 49]⟩ : ByteArray) ++ (⟨#[13, 10, 13, 10]⟩ : ByteArray), 400),
  ((⟨#[71, 69, 84, 32, 47, 32, 72, 84, 84, 80, 47, 49, 46, 49]⟩ : ByteArray) ++ (⟨#[13, 10, 104, 111, 115, 116, 58, 32, 97]⟩ : ByteArray) ++ (⟨#[13, 10, 99, 111, 110, 116, 101, 110, 116, 45, 108, 101, 110, 103, 116, 104, 58, 32, 57, 57, 57, 57, 57, 57, 57, 57, 57, 57, 57, 57, 57, 57, 57, 57, 57, 57, 57, 57]⟩ : ByteArray) ++ (⟨#[13, 10, 13, 10]⟩ : ByteArray), 413),
  ((⟨#[71, 69, 84, 32, 47, 32, 72, 84, 84, 80, 47, 49, 46, 49]⟩ : ByteArray) ++ (⟨#[13, 10, 104, 111, 115, 116, 58, 32, 97]⟩ : ByteArray) ++ (⟨#[13, 10, 116, 114, 97, 110, 115, 102, 101, 114, 45, 101, 110, 99, 111, 100, 105, 110, 103, 58, 32, 99, 104, 117, 110, 107, 101, 100]⟩ : ByteArray) ++ (⟨#[13, 10, 13, 10]⟩ : ByteArray), 501),
  ((⟨#[71, 69, 84, 32, 47, 32, 72, 84, 84, 80, 47, 49, 46, 49]⟩ : ByteArray) ++ (⟨#[13, 10, 104, 111, 115, 116, 58, 32, 97]⟩ : ByteArray) ++ (⟨#[13, 10, 105, 100, 101, 109, 112, 111, 116, 101, 110, 99, 121, 45, 107, 101, 121, 58]⟩ : ByteArray) ++ (⟨#[13, 10, 13, 10]⟩ : ByteArray), 400),
  ((⟨#[71, 69, 84, 32, 47, 32, 72, 84, 84, 80, 47, 49, 46, 49]⟩ : ByteArray) ++ (⟨#[13, 10, 104, 111, 115, 116, 58, 32, 97]⟩ : ByteArray) ++ (⟨#[13, 10, 105, 100, 101, 109, 112, 111, 116, 101, 110, 99, 121, 45, 107, 101, 121, 58, 32, 97, 32, 98]⟩ : ByteArray) ++ (⟨#[13, 10, 13, 10]⟩ : ByteArray), 400),
  ((⟨#[71, 69, 84, 32, 47, 32, 72, 84, 84, 80, 47, 49, 46, 49]⟩ : ByteArray) ++ (⟨#[13, 10, 104, 111, 115, 116, 58, 32, 97]⟩ : ByteArray) ++ (⟨#[13, 10, 105, 100, 101, 109, 112, 111, 116, 101, 110, 99, 121, 45, 107, 101, 121, 58, 32, 97, 98, 99, 100, 101, 102, 103, 104, 105, 106, 107, 108, 109, 110, 111, 112, 113, 114, 115, 116, 117, 118, 119, 120, 121, 122, 65, 66, 67, 68, 69, 70, 71]⟩ : ByteArray) ++ (⟨#[13, 10, 13, 10]⟩ : ByteArray), 400),
  ((⟨#[71, 69, 84, 32, 47, 32, 72, 84, 84, 80, 47, 49, 46, 49]⟩ : ByteArray) ++ (⟨#[13, 10, 104, 111, 115, 116, 58, 32, 97]⟩ : ByteArray) ++ (⟨#[13, 10, 98, 97, 100]⟩ : ByteArray) ++ (⟨#[13, 10, 13, 10]⟩ : ByteArray), 400),
  ((⟨#[71, 69, 84, 32, 47, 32, 72, 84, 84, 80, 47, 49, 46, 49]⟩ : ByteArray) ++ (⟨#[13, 10, 104, 111, 115, 116, 58, 32, 97]⟩ : ByteArray) ++ (⟨#[13, 10, 58, 32, 118]⟩ : ByteArray) ++ (⟨#[13, 10, 13, 10]⟩ : ByteArray), 400),
  ((⟨#[71, 69, 84, 32, 47, 32, 72, 84, 84, 80, 47, 49, 46, 49]⟩ : ByteArray) ++ (⟨#[13, 10, 104, 111, 115, 116, 58, 32, 97]⟩ : ByteArray) ++ (⟨#[13, 10, 97, 32, 98, 58, 32, 118]⟩ : ByteArray) ++ (⟨#[13, 10, 13, 10]⟩ : ByteArray), 400),
  ((⟨#[71, 69, 84, 32, 47, 32, 72, 84, 84, 80, 47, 49, 46, 49]⟩ : ByteArray) ++ (⟨#[13, 10, 104, 111, 115, 116, 58, 32, 97]⟩ : ByteArray) ++ (⟨#[10, 98, 58, 32, 99]⟩ : ByteArray) ++ (⟨#[13, 10, 13, 10]⟩ : ByteArray), 400),
  ((⟨#[71, 69, 84, 32, 47, 32, 72, 84, 84, 80, 47, 49, 46, 49]⟩ : ByteArray) ++ (⟨#[13, 10, 104, 111, 115, 116, 58, 32, 97]⟩ : ByteArray) ++ (⟨#[0]⟩ : ByteArray) ++ (⟨#[13, 10, 13, 10]⟩ : ByteArray), 400),
  ((⟨#[13, 10, 13, 10]⟩ : ByteArray), 400),
  ((⟨#[13, 10, 71, 69, 84, 32, 47, 32, 72, 84, 84, 80, 47, 49, 46, 49]⟩ : ByteArray) ++ (⟨#[13, 10, 104, 111, 115, 116, 58, 32, 97]⟩ : ByteArray) ++ (⟨#[13, 10, 13, 10]⟩ : ByteArray), 400)]
def namesV : Array Value := #[.string ((⟨#[71, 69, 84, 32, 47, 32, 72, 84, 84, 80, 47, 49, 46, 49]⟩ : ByteArray) ++ (⟨#[13, 10, 13, 10]⟩ : ByteArray)), .int .i64 400,
  .string ((⟨#[71, 69, 84, 32, 47, 32, 72, 84, 84, 80, 47, 49, 46, 48]⟩ : ByteArray) ++ (⟨#[13, 10, 104, 111, 115, 116, 58, 32, 97]⟩ : ByteArray) ++ (⟨#[13, 10, 13, 10]⟩ : ByteArray)), .int .i64 505,
  .string ((⟨#[71, 69, 84, 32, 47, 32, 72, 84, 84, 80, 47, 49, 46, 48]⟩ : ByteArray) ++ (⟨#[13, 10, 13, 10]⟩ : ByteArray)), .int .i64 505,
  .string ((⟨#[71, 69, 84, 32, 47, 32, 72, 84, 84, 80, 47, 49, 49]⟩ : ByteArray) ++ (⟨#[13, 10, 104, 111, 115, 116, 58, 32, 97]⟩ : ByteArray) ++ (⟨#[13, 10, 13, 10]⟩ : ByteArray)), .int .i64 400,
  .string ((⟨#[103, 101, 116, 32, 47, 32, 72, 84, 84, 80, 47, 49, 46, 49]⟩ : ByteArray) ++ (⟨#[13, 10, 104, 111, 115, 116, 58, 32, 97]⟩ : ByteArray) ++ (⟨#[13, 10, 13, 10]⟩ : ByteArray)), .int .i64 400,
  .string ((⟨#[71, 69, 84, 32, 120, 32, 72, 84, 84, 80, 47, 49, 46, 49]⟩ : ByteArray) ++ (⟨#[13, 10, 104, 111, 115, 116, 58, 32, 97]⟩ : ByteArray) ++ (⟨#[13, 10, 13, 10]⟩ : ByteArray)), .int .i64 400,
  .string ((⟨#[71, 69, 84, 32, 32, 47, 32, 72, 84, 84, 80, 47, 49, 46, 49]⟩ : ByteArray) ++ (⟨#[13, 10, 104, 111, 115, 116, 58, 32, 97]⟩ : ByteArray) ++ (⟨#[13, 10, 13, 10]⟩ : ByteArray)), .int .i64 400,
  .string ((⟨#[71, 69, 84, 32, 47, 32, 72, 84, 84, 80, 47, 49, 46, 49]⟩ : ByteArray) ++ (⟨#[13, 10, 104, 111, 115, 116, 58, 32, 97]⟩ : ByteArray) ++ (⟨#[13, 10, 104, 111, 115, 116, 58, 32, 97]⟩ : ByteArray) ++ (⟨#[13, 10, 13, 10]⟩ : ByteArray)), .int .i64 400,
  .string ((⟨#[71, 69, 84, 32, 47, 32, 72, 84, 84, 80, 47, 49, 46, 49]⟩ : ByteArray) ++ (⟨#[13, 10, 104, 111, 115, 116, 58, 32, 97]⟩ : ByteArray) ++ (⟨#[13, 10, 99, 111, 110, 116, 101, 110, 116, 45, 108, 101, 110, 103, 116, 104, 58, 32, 54, 53, 53, 51, 55]⟩ : ByteArray) ++ (⟨#[13, 10, 13, 10]⟩ : ByteArray)), .int .i64 413,
  .string ((⟨#[71, 69, 84, 32, 47, 32, 72, 84, 84, 80, 47, 49, 46, 49]⟩ : ByteArray) ++ (⟨#[13, 10, 104, 111, 115, 116, 58, 32, 97]⟩ : ByteArray) ++ (⟨#[13, 10, 99, 111, 110, 116, 101, 110, 116, 45, 108, 101, 110, 103, 116, 104, 58, 32, 48, 49]⟩ : ByteArray) ++ (⟨#[13, 10, 13, 10]⟩ : ByteArray)), .int .i64 400,
  .string ((⟨#[71, 69, 84, 32, 47, 32, 72, 84, 84, 80, 47, 49, 46, 49]⟩ : ByteArray) ++ (⟨#[13, 10, 104, 111, 115, 116, 58, 32, 97]⟩ : ByteArray) ++ (⟨#[13, 10, 99, 111, 110, 116, 101, 110, 116, 45, 108, 101, 110, 103, 116, 104, 58, 32, 49, 13, 10, 67, 79, 78, 84, 69, 78, 84, 45, 76, 69, 78, 71, 84, 72, 58, 32, 49]⟩ : ByteArray) ++ (⟨#[13, 10, 13, 10]⟩ : ByteArray)), .int .i64 400,
  .string ((⟨#[71, 69, 84, 32, 47, 32, 72, 84, 84, 80, 47, 49, 46, 49]⟩ : ByteArray) ++ (⟨#[13, 10, 104, 111, 115, 116, 58, 32, 97]⟩ : ByteArray) ++ (⟨#[13, 10, 99, 111, 110, 116, 101, 110, 116, 45, 108, 101, 110, 103, 116, 104, 58, 32, 57, 57, 57, 57, 57, 57, 57, 57, 57, 57, 57, 57, 57, 57, 57, 57, 57, 57, 57, 57]⟩ : ByteArray) ++ (⟨#[13, 10, 13, 10]⟩ : ByteArray)), .int .i64 413,
  .string ((⟨#[71, 69, 84, 32, 47, 32, 72, 84, 84, 80, 47, 49, 46, 49]⟩ : ByteArray) ++ (⟨#[13, 10, 104, 111, 115, 116, 58, 32, 97]⟩ : ByteArray) ++ (⟨#[13, 10, 116, 114, 97, 110, 115, 102, 101, 114, 45, 101, 110, 99, 111, 100, 105, 110, 103, 58, 32, 99, 104, 117, 110, 107, 101, 100]⟩ : ByteArray) ++ (⟨#[13, 10, 13, 10]⟩ : ByteArray)), .int .i64 501,
  .string ((⟨#[71, 69, 84, 32, 47, 32, 72, 84, 84, 80, 47, 49, 46, 49]⟩ : ByteArray) ++ (⟨#[13, 10, 104, 111, 115, 116, 58, 32, 97]⟩ : ByteArray) ++ (⟨#[13, 10, 105, 100, 101, 109, 112, 111, 116, 101, 110, 99, 121, 45, 107, 101, 121, 58]⟩ : ByteArray) ++ (⟨#[13, 10, 13, 10]⟩ : ByteArray)), .int .i64 400,
  .string ((⟨#[71, 69, 84, 32, 47, 32, 72, 84, 84, 80, 47, 49, 46, 49]⟩ : ByteArray) ++ (⟨#[13, 10, 104, 111, 115, 116, 58, 32, 97]⟩ : ByteArray) ++ (⟨#[13, 10, 105, 100, 101, 109, 112, 111, 116, 101, 110, 99, 121, 45, 107, 101, 121, 58, 32, 97, 32, 98]⟩ : ByteArray) ++ (⟨#[13, 10, 13, 10]⟩ : ByteArray)), .int .i64 400,
  .string ((⟨#[71, 69, 84, 32, 47, 32, 72, 84, 84, 80, 47, 49, 46, 49]⟩ : ByteArray) ++ (⟨#[13, 10, 104, 111, 115, 116, 58, 32, 97]⟩ : ByteArray) ++ (⟨#[13, 10, 105, 100, 101, 109, 112, 111, 116, 101, 110, 99, 121, 45, 107, 101, 121, 58, 32, 97, 98, 99, 100, 101, 102, 103, 104, 105, 106, 107, 108, 109, 110, 111, 112, 113, 114, 115, 116, 117, 118, 119, 120, 121, 122, 65, 66, 67, 68, 69, 70, 71]⟩ : ByteArray) ++ (⟨#[13, 10, 13, 10]⟩ : ByteArray)), .int .i64 400,
  .string ((⟨#[71, 69, 84, 32, 47, 32, 72, 84, 84, 80, 47, 49, 46, 49]⟩ : ByteArray) ++ (⟨#[13, 10, 104, 111, 115, 116, 58, 32, 97]⟩ : ByteArray) ++ (⟨#[13, 10, 98, 97, 100]⟩ : ByteArray) ++ (⟨#[13, 10, 13, 10]⟩ : ByteArray)), .int .i64 400,
  .string ((⟨#[71, 69, 84, 32, 47, 32, 72, 84, 84, 80, 47, 49, 46, 49]⟩ : ByteArray) ++ (⟨#[13, 10, 104, 111, 115, 116, 58, 32, 97]⟩ : ByteArray) ++ (⟨#[13, 10, 58, 32, 118]⟩ : ByteArray) ++ (⟨#[13, 10, 13, 10]⟩ : ByteArray)), .int .i64 400,
  .string ((⟨#[71, 69, 84, 32, 47, 32, 72, 84, 84, 80, 47, 49, 46, 49]⟩ : ByteArray) ++ (⟨#[13, 10, 104, 111, 115, 116, 58, 32, 97]⟩ : ByteArray) ++ (⟨#[13, 10, 97, 32, 98, 58, 32, 118]⟩ : ByteArray) ++ (⟨#[13, 10, 13, 10]⟩ : ByteArray)), .int .i64 400,
  .string ((⟨#[71, 69, 84, 32, 47, 32, 72, 84, 84, 80, 47, 49, 46, 49]⟩ : ByteArray) ++ (⟨#[13, 10, 104, 111, 115, 116, 58, 32, 97]⟩ : ByteArray) ++ (⟨#[10, 98, 58, 32, 99]⟩ : ByteArray) ++ (⟨#[13, 10, 13, 10]⟩ : ByteArray)), .int .i64 400,
  .string ((⟨#[71, 69, 84, 32, 47, 32, 72, 84, 84, 80, 47, 49, 46, 49]⟩ : ByteArray) ++ (⟨#[13, 10, 104, 111, 115, 116, 58, 32, 97]⟩ : ByteArray) ++ (⟨#[0]⟩ : ByteArray) ++ (⟨#[13, 10, 13, 10]⟩ : ByteArray)), .int .i64 400,
  .string ((⟨#[13, 10, 13, 10]⟩ : ByteArray)), .int .i64 400,
  .string ((⟨#[13, 10, 71, 69, 84, 32, 47, 32, 72, 84, 84, 80, 47, 49, 46, 49]⟩ : ByteArray) ++ (⟨#[13, 10, 104, 111, 115, 116, 58, 32, 97]⟩ : ByteArray) ++ (⟨#[13, 10, 13, 10]⟩ : ByteArray)), .int .i64 400]
theorem namesV_eq : namesV = (namesT.flatMap fun x => [Value.string x.1, Value.int .i64 x.2]).toArray := by rfl
theorem names_told : (namesT.map fun x => feedS x.1.data.toList) = namesT.map fun x => ([refG x.2], [], true) := by kernel_rfl
theorem names_size : (namesT.all fun x => decide (x.1.size ≤ 300000)) = true := by kernel_rfl
theorem namesT_len : namesT.length = 23 := by rfl
theorem names_at {i : Nat} (h : i < 23) : ∃ t st, namesV[i * 2]? = some (.string t) ∧ namesV[i * 2 + 1]? = some (.int .i64 st) ∧ feedS t.data.toList = ([refG st], [], true) ∧ t.size ≤ 300000 := by
  have hi : i < namesT.length := by rw [namesT_len]; exact h
  have h1 := congrArg (fun l => l[i]?) names_told
  simp only [List.getElem?_map, List.getElem?_eq_getElem hi, Option.map_some] at h1
  have h2 := of_decide_eq_true (List.all_eq_true.1 names_size namesT[i] (List.getElem_mem hi))
  have hv : ∀ j : Fin 23, namesV[j.val * 2]? = some (.string (namesT[j.val]'(by rw [namesT_len]; exact j.isLt)).1) ∧ namesV[j.val * 2 + 1]? = some (.int .i64 (namesT[j.val]'(by rw [namesT_len]; exact j.isLt)).2) := by
    intro j
    match j with
    | ⟨0, _⟩ => exact ⟨rfl, rfl⟩
    | ⟨1, _⟩ => exact ⟨rfl, rfl⟩
    | ⟨2, _⟩ => exact ⟨rfl, rfl⟩
    | ⟨3, _⟩ => exact ⟨rfl, rfl⟩
    | ⟨4, _⟩ => exact ⟨rfl, rfl⟩
    | ⟨5, _⟩ => exact ⟨rfl, rfl⟩
    | ⟨6, _⟩ => exact ⟨rfl, rfl⟩
    | ⟨7, _⟩ => exact ⟨rfl, rfl⟩
    | ⟨8, _⟩ => exact ⟨rfl, rfl⟩
    | ⟨9, _⟩ => exact ⟨rfl, rfl⟩
    | ⟨10, _⟩ => exact ⟨rfl, rfl⟩
    | ⟨11, _⟩ => exact ⟨rfl, rfl⟩
    | ⟨12, _⟩ => exact ⟨rfl, rfl⟩
    | ⟨13, _⟩ => exact ⟨rfl, rfl⟩
    | ⟨14, _⟩ => exact ⟨rfl, rfl⟩
    | ⟨15, _⟩ => exact ⟨rfl, rfl⟩
    | ⟨16, _⟩ => exact ⟨rfl, rfl⟩
    | ⟨17, _⟩ => exact ⟨rfl, rfl⟩
    | ⟨18, _⟩ => exact ⟨rfl, rfl⟩
    | ⟨19, _⟩ => exact ⟨rfl, rfl⟩
    | ⟨20, _⟩ => exact ⟨rfl, rfl⟩
    | ⟨21, _⟩ => exact ⟨rfl, rfl⟩
    | ⟨22, _⟩ => exact ⟨rfl, rfl⟩
    | ⟨n + 23, h⟩ => exact absurd h (by omega)
  exact ⟨_, _, (hv ⟨i, h⟩).1, (hv ⟨i, h⟩).2, Option.some.inj h1, h2⟩
def sevenB : ByteArray := ⟨#[65, 66, 67, 68, 69, 70, 71, 72, 73, 74, 75, 76, 77, 78, 79, 80, 81, 32, 47, 32, 72, 84, 84, 80, 47, 49, 46, 49, 13, 10, 104, 111, 115, 116, 58, 32, 97, 13, 10, 13, 10]⟩
def sixteenB : ByteArray := ⟨#[65, 66, 67, 68, 69, 70, 71, 72, 73, 74, 75, 76, 77, 78, 79, 80, 32, 47, 32, 72, 84, 84, 80, 47, 49, 46, 49, 13, 10, 104, 111, 115, 116, 58, 32, 97, 13, 10, 13, 10]⟩
theorem seven_told : feedS sevenB.data.toList = ([refG 400], [], true) := by kernel_rfl
theorem sixteen_told : (feedS sixteenB.data.toList).1.map (·.st) = [0] := by kernel_rfl
/-- Bytes that are all one letter have no end in them. -/
theorem no_ends (P : List UInt8) (n : Nat) (hP : index (P ++ [97, 97, 97, 97]) ends4 = -1) : index (P ++ List.replicate n 97) ends4 = -1 := by
  refine index_none (fun j hj => ?_)
  have h0 : ∀ j, j ≤ (P ++ [97, 97, 97, 97]).length → occAt (P ++ [97, 97, 97, 97]) ends4 j = false := by
    rcases index_spec (P ++ [97, 97, 97, 97]) ends4 with ⟨_, h⟩ | ⟨i, h, _⟩
    · exact h
    · rw [hP] at h; omega
  cases ho : occAt (P ++ List.replicate n 97) ends4 j with
  | false => rfl
  | true =>
    exfalso
    have hr := occAt_room ho
    have h4 : ends4.length = 4 := rfl
    simp only [List.length_append, List.length_replicate, h4] at hr
    have hr2 : j + 4 ≤ P.length + n := by rcases hr with h | h; exact h; cases h
    have hk := occAt_iff_take (P ++ List.replicate n 97) ends4 j (by rw [List.length_append, List.length_replicate, h4]; exact hr2)
    rw [ho] at hk
    have hk2 := beq_iff_eq.1 hk.symm
    rw [h4] at hk2
    have e1 : ∀ k, k < 4 → (P ++ List.replicate n 97)[j + k]? = ends4[k]? := fun k hk4 => by
      have := congrArg (fun l : List UInt8 => l[k]?) hk2
      simp only [List.getElem?_take, List.getElem?_drop, if_pos hk4] at this
      exact this
    rcases Nat.lt_or_ge (j + 3) P.length with hj3 | hj3
    · have := h0 j (by simp; omega)
      have hk3 := occAt_iff_take (P ++ [97, 97, 97, 97]) ends4 j (by simp [h4]; omega)
      rw [this] at hk3
      have hne : ((P ++ [97, 97, 97, 97]).drop j).take 4 ≠ ends4 := fun e => by
        rw [h4, e] at hk3
        simp at hk3
      apply hne
      rw [← hk2, List.drop_append_of_le_length (by omega), List.drop_append_of_le_length (by omega), List.take_append_of_le_length (by rw [List.length_drop]; omega), List.take_append_of_le_length (by rw [List.length_drop]; omega)]
    · have := e1 3 (by omega)
      rw [List.getElem?_append_right hj3, List.getElem?_replicate, if_pos (by omega)] at this
      revert this
      decide

def xLead : List UInt8 := [71, 69, 84, 32, 47, 32, 72, 84, 84, 80, 47, 49, 46, 49, 13, 10, 104, 111, 115, 116, 58, 32, 97, 13, 10, 120, 58, 32]
theorem index_many (n : Nat) : index (List.replicate n 97) ends4 = -1 := no_ends [] n (by kernel_rfl)
theorem index_x (n : Nat) : index (xLead ++ List.replicate n 97) ends4 = -1 := no_ends xLead n (by kernel_rfl)
theorem feed_many : feedS (List.replicate 4096 97) = ([refG 431], [], true) := by
  have e : nextS (List.replicate 4096 97) = .refuse 431 := by
    unfold nextS
    rw [List.take_of_length_le (by rw [List.length_replicate]; exact Nat.le_refl _), index_many, if_pos (by decide), if_pos (by rw [List.length_replicate]; exact Nat.le_refl _)]
  rw [feedS_eq, e]
theorem feed_less : feedS (List.replicate 4095 97) = ([], List.replicate 4095 97, false) := by
  have e : nextS (List.replicate 4095 97) = .wait := by
    unfold nextS
    rw [List.take_of_length_le (by rw [List.length_replicate]; omega), index_many, if_pos (by decide), if_neg (by rw [List.length_replicate]; omega)]
  rw [feedS_eq, e]
theorem feed_x (t : List UInt8) : feedS (xLead ++ List.replicate 4096 97 ++ t) = ([refG 431], [], true) := by
  have hl : xLead.length = 28 := rfl
  have e : nextS (xLead ++ List.replicate 4096 97 ++ t) = .refuse 431 := by
    have htk : (xLead ++ List.replicate 4096 97 ++ t).take 4096 = xLead ++ List.replicate (4096 - 28) 97 := by
      rw [List.append_assoc, List.take_append, hl, List.take_of_length_le (by rw [hl]; omega), List.take_append, List.length_replicate, List.take_replicate, show 4096 - 28 - 4096 = 0 by omega, List.take_zero, List.append_nil, show min (4096 - 28) 4096 = 4096 - 28 by omega]
    unfold nextS
    rw [htk, index_x, if_pos (by decide), if_pos (by rw [List.length_append, List.length_append, List.length_replicate]; omega)]
  rw [feedS_eq, e]
end Go.Proofs.YtlgfhbfdjckdnaaGreatDoor
