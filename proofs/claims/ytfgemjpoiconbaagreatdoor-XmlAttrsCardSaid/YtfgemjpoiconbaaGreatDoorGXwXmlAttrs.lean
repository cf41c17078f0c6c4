/- All that the law of XmlAttrs asks. -/
import Derived.Test.YtfgemjpoiconbaaGreatDoorGNmW
import Derived.Test.YtfgemjpoiconbaaGreatDoorGXmyL
