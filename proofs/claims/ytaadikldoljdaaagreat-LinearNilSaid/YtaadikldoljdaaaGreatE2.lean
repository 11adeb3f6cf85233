/- Proved: the second history of the known rows is not explained; no condition. -/
import Derived.Test.YtaadikldoljdaaaGreatMemo
import Derived.Test.YtaadikldoljdaaaGreatAiQuick

/- History 2, reckoned. -/
namespace Go.Proofs.YtaadikldoljdaaaGreat
open Go.AI
set_option maxRecDepth 1000000 in
theorem memo2_quick : memo2.check (kcall' Tryz.prog orc 100 16 memo2.args memo2.heap) = true := by decide +kernel
theorem memo2_run : memo2.check (fcall Tryz.prog orc 100 16 memo2.args memo2.heap) = true := by
  rw [← kcall_eq]; exact memo2_quick
end Go.Proofs.YtaadikldoljdaaaGreat
