/- RecordApart: a contract. -/
import Derived.Test.YthomiajjiikmaaaGreatDoorAwake
import Derived.Test.YthomiajjiikmaaaGreatDoorPrim
set_option linter.unusedVariables false
set_option linter.unusedSimpArgs false
set_option maxRecDepth 100000
namespace Go.Proofs.YthomiajjiikmaaaGreatDoor.apart
open Go Go.RowKit Ev
def Mk (k n : Int) (s : ByteArray) (x y : Int) (z : ByteArray) : Prop := ∀ w, Laid w → Calls Tryz.prog 36 #[.agg #[.int .u8 k, .int .i64 n, .string s]] w fun e w' => e = .returned (.agg #[.int .u8 x, .int .i64 y, .string z]) ∧ Below w.heap.size w w'
end Go.Proofs.YthomiajjiikmaaaGreatDoor.apart
