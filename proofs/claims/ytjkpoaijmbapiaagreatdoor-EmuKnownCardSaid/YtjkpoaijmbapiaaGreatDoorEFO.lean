
import Derived.Test.YtjkpoaijmbapiaaGreatDoorEFO1
import Derived.Test.YtjkpoaijmbapiaaGreatDoorEFO2
set_option linter.all false
namespace Go.Proofs.E
set_option linter.all false
open Go Go.Am
theorem ft_ok : ft.all (okFn Tryz.prog) = true := (FT.all_join (FT.all_join (FT.all_join (FT.all_join o1_0 o1_1) (FT.all_join o1_2 o1_3)) (FT.all_join (FT.all_join o1_4 o1_5) (FT.all_join o1_6 o1_7))) (FT.all_join (FT.all_join (FT.all_join o1_8 o1_9) (FT.all_join o1_10 o1_11)) (FT.all_join (FT.all_join o2_0 o2_1) (FT.all_join o2_2 (FT.all_join o2_3 o2_4)))))
end Go.Proofs.E
