/-
  RoomWaits: with the types of its arguments.
-/
import Derived.Test.YtnlcabhfkpafmaaGreatZH
import Derived.Test.YtnlcabhfkpafmaaGreatVDemT
set_option maxRecDepth 100000
