/-
  What is done, as it lies in memory.
-/
import Derived.Test.YtjejifbpidgnmaaDRef9
namespace Go.Proofs.Ytjejifbpidgnmaa
open Go.RowKit

structure Act1 where
  kind : Int
  at_ : Int
  name : ByteArray
  other : ByteArray
  bv : Value
  kv : Value

abbrev scells (a : Act1) : List Value := [.int .i64 a.kind, .string a.name, .string a.other, .int .i64 a.at_, a.bv, a.kv]

/-- what is done, where it lies -/
def ActIn (w : World) (a : Act1) : Prop := ∃ bytes keep, Sr w a.bv bytes.length 1 (bcells bytes) ∧ KeepAt w a.kv keep

end Go.Proofs.Ytjejifbpidgnmaa
