/-
  RoomWaits: with the types of its arguments.
-/
import Derived.Test.YtnlcabhfkpafmaaGreatZG
import Derived.Test.YtnlcabhfkpafmaaGreatVDemT
set_option maxRecDepth 100000
