/- what Roomy leans on in this seat. -/
import Derived.Test.YtkcncnbjojejeaaRingFlowsWalk
import Derived.Test.YtkcncnbjojejeaaBase5
import Derived.Deep.RegionHeld3
import Derived.Deep.RegionLaw
