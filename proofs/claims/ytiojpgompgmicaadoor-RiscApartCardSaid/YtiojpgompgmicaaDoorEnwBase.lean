/- The engine, its base: what package-level tables hold: of this seat the powers of ten (the library's table behind strconv.Itoa). -/
import Derived.Below
import Derived.Lib.ItoaNum
namespace Go.Eng
open Go
/-- A table's block: its cells. -/
def Base : Nat → Option (Array Value) := fun g => if g = 0 then some (Lib.pow10Tab.map fun z => Value.int .u64 z).toArray else none
end Go.Eng
