/- Stores of floats, as the walk wants them told. Conditions: none. -/
import Derived.Test.YtecppcgleidhkaaProg
import Derived.WalkKit
import Derived.WalkLawsBesides
namespace Go.Proofs.Ytecppcgleidhkaa.Fs
open Go

section
variable {P : Program} {w : World} {a : Addr} {m : Mode}
@[go_sem] theorem run_store_float (k : FloatKind) (n : Nat) : (store a (.float k n) m).run P w = stored P w a (.float k n) m := run_store P w a _ m rfl
@[go_sem] theorem run_store_map (r : Option Nat) : (store a (.map r) m).run P w = stored P w a (.map r) m := run_store P w a _ m rfl
end
end Go.Proofs.Ytecppcgleidhkaa.Fs
