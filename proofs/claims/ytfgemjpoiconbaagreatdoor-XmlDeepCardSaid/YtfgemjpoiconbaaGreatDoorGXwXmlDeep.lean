/- All that the law of XmlDeep asks. -/
import Derived.Test.YtfgemjpoiconbaaGreatDoorGNmW
import Derived.Test.YtfgemjpoiconbaaGreatDoorGXmyM
