/- The engine, its base: what package-level variables hold: of this seat the powers of ten (the library's table behind strconv.Itoa), and the handle of the type 'error' (behind errors.As). -/
import Derived.Below
import Derived.Lib.ItoaNum
namespace Go.Eng
open Go
/-- A variable's block: its cells. -/
def Base : Nat → Option (Array Value) := fun g => if g = 0 then some #[.iface 100 (.agg #[.pointer (some ⟨5, 44, none⟩)])] else if g = 1 then some (Lib.pow10Tab.map fun z => Value.int .u64 z).toArray else none
end Go.Eng
