/- Chapter 3: the known example. -/
import Derived.Test.YtlbcnklieefhmaaPAx23
namespace Go.Proofs.Ytlbcnklieefhmaa.PA
theorem known3 : sentrylaw3_known.f 3 = some true := by decide +kernel
end Go.Proofs.Ytlbcnklieefhmaa.PA
