/- Errors that are handed back: nil, one of the library's numbered ones, or one of which nothing is told. For any program. -/
import Derived.Test.YtglnkknalibgdaaDoorGwQ
set_option linter.unusedVariables false
set_option linter.unusedSimpArgs false
set_option linter.unnecessarySimpa false
namespace Go.Gw
open Go.RowKit

inductive GErr where
  | nil
  | code (t : TypeId) (n : Int)
  | opq
  deriving DecidableEq
def GErr.isNil : GErr → Bool
  | .nil => true
  | _ => false
def errV : GErr → TypeId × Value → Value
  | .nil, _ => .nilIface
  | .code t n, _ => .iface t (.int .i64 n)
  | .opq, y => .iface y.1 y.2
def errY : TypeId × Value := (0, .nilIface)

section
variable {P : Program} {N : Nat} {w0 : World} {F0 : Heap} {D : Own} {w : World} {F : Heap} {L L' M M' : List SP} {B B' : List (Option Box)} {ρ : Nat → Nat} {l : Env} {a : Act} {o : Oper} {ops : Array Oper} {lit : List Nat} {rest : List Oper} {Q : Exit → Act → World → Prop}

end
end Go.Gw

