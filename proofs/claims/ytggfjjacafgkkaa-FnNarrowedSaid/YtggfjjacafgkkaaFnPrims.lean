/-
  The functions without a body, in this program's numbers.
-/
import Derived.Test.YtggfjjacafgkkaaFnPre
namespace Go.Proofs.Ytggfjjacafgkkaa
open Go.Ev Go

def s36 : Summ := .prim (primBits .f32)
def s38 : Summ := .prim (primFrom .f32)
theorem summ36 : SummOK Try.prog 36 s36 := prim_of Try.func36 (by kernel_rfl) (by kernel_rfl) (by kernel_rfl) (by kernel_rfl) bits32_sound
theorem summ38 : SummOK Try.prog 38 s38 := prim_of Try.func38 (by kernel_rfl) (by kernel_rfl) (by kernel_rfl) (by kernel_rfl) from32_sound
end Go.Proofs.Ytggfjjacafgkkaa
