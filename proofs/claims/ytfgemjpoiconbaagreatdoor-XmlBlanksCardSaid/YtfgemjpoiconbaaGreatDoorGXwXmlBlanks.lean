/- All that the law of XmlBlanks asks. -/
import Derived.Test.YtfgemjpoiconbaaGreatDoorGNmW
import Derived.Test.YtfgemjpoiconbaaGreatDoorGXmyI
