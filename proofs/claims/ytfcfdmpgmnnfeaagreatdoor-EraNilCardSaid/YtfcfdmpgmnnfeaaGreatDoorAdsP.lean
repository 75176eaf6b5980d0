/- Part AdsP of the proof. -/
import Derived.Test.YtfcfdmpgmnnfeaaGreatDoorAdsM
set_option linter.unusedSimpArgs false
set_option linter.unusedVariables false
namespace Go.Ads
noncomputable section
theorem works_true : isTrueV (runK fl sp1 100000 10 [] H0) = true := by kernel_rfl
end
end Go.Ads
