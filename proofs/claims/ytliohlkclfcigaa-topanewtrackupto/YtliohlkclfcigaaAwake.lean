/- A part of the proof that TopAnewTrack returns true at every input of bulk at most 1048576: Awake returns true. -/
import Derived.Test.YtliohlkclfcigaaProg
import Derived.KernelRfl
import Derived.Test.YtliohlkclfcigaaAbsTc
set_option linter.unusedVariables false
set_option linter.unusedSimpArgs false
namespace Go.Proofs.Ytliohlkclfcigaa
open Go Go.Abs Go.Proofs
theorem awake0 : sayT (callT Try.prog (ctx Try.prog 40) 43 [] ⟨0, .nil⟩) = true := by kernel_rfl
theorem awake (B : Orc) (W : AW) : RK Try.prog (orU (orcA Try.prog 43) B) 43 [] W (fun _ => False) (fun v _ => v = .bool true) :=
  RK_awake Try.func43 (by rfl) (by rfl) (RK_kernel awake0) B W
end Go.Proofs.Ytliohlkclfcigaa
