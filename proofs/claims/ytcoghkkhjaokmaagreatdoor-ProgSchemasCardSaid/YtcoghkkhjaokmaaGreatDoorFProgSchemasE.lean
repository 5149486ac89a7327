/-
  The library's functions that the small machine takes as they are told, for 'colonnade/colonnadelaw26.ProgSchemas'.
-/
import Derived.Test.YtcoghkkhjaokmaaGreatDoorM
import Derived.Test.YtcoghkkhjaokmaaGreatDoorX
import Derived.Test.YtcoghkkhjaokmaaGreatDoorStr
import Derived.Test.YtcoghkkhjaokmaaGreatDoorVmFastL
import Derived.Test.YtcoghkkhjaokmaaGreatDoorLaidProgSchemas
namespace Go.Proofs.YtcoghkkhjaokmaaGreatDoor.progSchemas
open Go.Vm
def ext : Ext := orX (strX sg strs) (extBy exts)
end Go.Proofs.YtcoghkkhjaokmaaGreatDoor.progSchemas
