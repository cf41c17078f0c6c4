/- All that the law of XmlBack asks. -/
import Derived.Test.YtfgemjpoiconbaaGreatDoorGNmW
import Derived.Test.YtfgemjpoiconbaaGreatDoorGXmyG
