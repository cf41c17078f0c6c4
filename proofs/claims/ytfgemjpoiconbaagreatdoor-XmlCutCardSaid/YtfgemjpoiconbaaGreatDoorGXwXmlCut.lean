/- All that the law of XmlCut asks. -/
import Derived.Test.YtfgemjpoiconbaaGreatDoorGNmW
import Derived.Test.YtfgemjpoiconbaaGreatDoorGXmyH
