/- The model's own functions, in this program. -/
import Derived.Test.YtgmfnndoaljdbaaGreatDoorAxTb
import Derived.Test.YtgmfnndoaljdbaaGreatDoorCopyCheck
import Derived.Test.YtgmfnndoaljdbaaGreatDoorAxY
set_option linter.all false
namespace Go.Proofs
open Go Go.Ax
set_option maxRecDepth 100000
theorem x152 : ExtOK Tryz.prog 152 extIndexByte := fun args hp n r h => extIndexByte_ok Tryz.func152 (by kernel_rfl) (by kernel_rfl) (by kernel_rfl) (by kernel_rfl) args hp n r h
theorem x175 : ExtOK Tryz.prog 175 extCount := fun args hp n r h => extCount_ok Tryz.func175 (by kernel_rfl) (by kernel_rfl) (by kernel_rfl) (by kernel_rfl) args hp n r h
theorem x114 : ExtOK Tryz.prog 114 extCompare := fun args hp n r h => extCompare_ok Tryz.func114 (by kernel_rfl) (by kernel_rfl) (by kernel_rfl) (by kernel_rfl) args hp n r h
theorem x195 : ExtOK Tryz.prog 195 (extMake 5) := fun args hp n r h => extMake_ok (ps := #[3]) (t := 101) Tryz.func195 (by kernel_rfl) (by kernel_rfl) (by kernel_rfl) (by kernel_rfl) (by kernel_rfl) args hp n r h
end Go.Proofs
