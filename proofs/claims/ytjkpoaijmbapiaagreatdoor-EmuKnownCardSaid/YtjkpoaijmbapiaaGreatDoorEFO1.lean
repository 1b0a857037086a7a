
import Derived.Test.YtjkpoaijmbapiaaGreatDoorEF2
import Derived.Test.YtjkpoaijmbapiaaGreatDoorProg
set_option linter.all false
namespace Go.Proofs.E
set_option linter.all false
open Go Go.Am
theorem o1_0 : t1_0.all (okFn Tryz.prog) = true := by kernel_rfl
theorem o1_1 : t1_1.all (okFn Tryz.prog) = true := by kernel_rfl
theorem o1_2 : t1_2.all (okFn Tryz.prog) = true := by kernel_rfl
theorem o1_3 : t1_3.all (okFn Tryz.prog) = true := by kernel_rfl
theorem o1_4 : t1_4.all (okFn Tryz.prog) = true := by kernel_rfl
theorem o1_5 : t1_5.all (okFn Tryz.prog) = true := by kernel_rfl
theorem o1_6 : t1_6.all (okFn Tryz.prog) = true := by kernel_rfl
theorem o1_7 : t1_7.all (okFn Tryz.prog) = true := by kernel_rfl
end Go.Proofs.E
