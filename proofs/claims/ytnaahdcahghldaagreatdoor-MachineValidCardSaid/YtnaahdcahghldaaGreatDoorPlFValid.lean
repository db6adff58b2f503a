/- Closed facts of MachineValid, one text a fact. -/
import Derived.Test.YtnaahdcahghldaaGreatDoorPlF1
import Derived.Test.YtnaahdcahghldaaGreatDoorPlF2
import Derived.Test.YtnaahdcahghldaaGreatDoorPlF3
import Derived.Test.YtnaahdcahghldaaGreatDoorPlF4
import Derived.Test.YtnaahdcahghldaaGreatDoorPlF5
import Derived.Test.YtnaahdcahghldaaGreatDoorPlF6
import Derived.Test.YtnaahdcahghldaaGreatDoorPlF7
import Derived.Test.YtnaahdcahghldaaGreatDoorPlF8
set_option linter.all false

