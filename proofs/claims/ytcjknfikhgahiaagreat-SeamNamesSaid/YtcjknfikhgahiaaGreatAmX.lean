/- All of the machine, with the two closed facts about this program. -/
import Derived.Test.YtcjknfikhgahiaaGreatAmW
import Derived.Test.YtcjknfikhgahiaaGreatAmP
import Derived.Test.YtcjknfikhgahiaaGreatNm
