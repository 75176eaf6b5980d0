/- Part AdsN of the proof. -/
import Derived.Test.YtfcfdmpgmnnfeaaGreatDoorAdsM
set_option linter.unusedSimpArgs false
set_option linter.unusedVariables false
namespace Go.Ads
noncomputable section
theorem nil_false : isTrueV (runK fl sp2 100000 3 [.bool false] H0) = true := by kernel_rfl
theorem nil_true : isTrueV (runK fl sp2 100000 3 [.bool true] H0) = true := by kernel_rfl
end
end Go.Ads
