/- All of the machine, with the two closed facts about this program. -/
import Derived.Test.YtdojgffcahimjaaAmW
import Derived.Test.YtdojgffcahimjaaAmP
import Derived.Test.YtdojgffcahimjaaNm
