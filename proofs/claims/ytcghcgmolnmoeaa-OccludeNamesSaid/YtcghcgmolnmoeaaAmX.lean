/- All of the machine, with the two closed facts about this program. -/
import Derived.Test.YtcghcgmolnmoeaaAmW
import Derived.Test.YtcghcgmolnmoeaaAmP
import Derived.Test.YtcghcgmolnmoeaaNm
