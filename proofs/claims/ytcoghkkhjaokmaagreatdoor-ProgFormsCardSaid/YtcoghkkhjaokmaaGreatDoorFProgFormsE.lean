/-
  The library's functions that the small machine takes as they are told, for 'colonnade/colonnadelaw26.ProgForms'.
-/
import Derived.Test.YtcoghkkhjaokmaaGreatDoorM
import Derived.Test.YtcoghkkhjaokmaaGreatDoorX
import Derived.Test.YtcoghkkhjaokmaaGreatDoorStr
import Derived.Test.YtcoghkkhjaokmaaGreatDoorVmFastL
import Derived.Test.YtcoghkkhjaokmaaGreatDoorLaidProgForms
namespace Go.Proofs.YtcoghkkhjaokmaaGreatDoor.progForms
open Go.Vm
def ext : Ext := orX (strX sg strs) (extBy exts)
end Go.Proofs.YtcoghkkhjaokmaaGreatDoor.progForms
