
import Derived.Test.YtjkpoaijmbapiaaGreatDoorEF2
import Derived.Test.YtjkpoaijmbapiaaGreatDoorProg
set_option linter.all false
namespace Go.Proofs.E
set_option linter.all false
open Go Go.Am
theorem o1_8 : t1_8.all (okFn Tryz.prog) = true := by kernel_rfl
theorem o1_9 : t1_9.all (okFn Tryz.prog) = true := by kernel_rfl
theorem o1_10 : t1_10.all (okFn Tryz.prog) = true := by kernel_rfl
theorem o1_11 : t1_11.all (okFn Tryz.prog) = true := by kernel_rfl
theorem o2_0 : t2_0.all (okFn Tryz.prog) = true := by kernel_rfl
theorem o2_1 : t2_1.all (okFn Tryz.prog) = true := by kernel_rfl
theorem o2_2 : t2_2.all (okFn Tryz.prog) = true := by kernel_rfl
theorem o2_3 : t2_3.all (okFn Tryz.prog) = true := by kernel_rfl
theorem o2_4 : t2_4.all (okFn Tryz.prog) = true := by kernel_rfl
end Go.Proofs.E
