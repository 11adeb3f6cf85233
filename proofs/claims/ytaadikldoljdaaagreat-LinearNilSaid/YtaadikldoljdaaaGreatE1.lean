/- Proved: the first history of the known rows is explained; no condition. -/
import Derived.Test.YtaadikldoljdaaaGreatMemo
import Derived.Test.YtaadikldoljdaaaGreatAiQuick

/- History 1, reckoned. -/
namespace Go.Proofs.YtaadikldoljdaaaGreat
open Go.AI
set_option maxRecDepth 1000000 in
theorem memo1_quick : memo1.check (kcall' Tryz.prog orc 100 16 memo1.args memo1.heap) = true := by decide +kernel
theorem memo1_run : memo1.check (fcall Tryz.prog orc 100 16 memo1.args memo1.heap) = true := by
  rw [← kcall_eq]; exact memo1_quick
end Go.Proofs.YtaadikldoljdaaaGreat
