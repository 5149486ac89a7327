/-
  The library's functions that the small machine takes as they are told, for 'colonnade/colonnadelaw25.TextForms'.
-/
import Derived.Test.YtcoghkkhjaokmaaDoorM
import Derived.Test.YtcoghkkhjaokmaaDoorX
import Derived.Test.YtcoghkkhjaokmaaDoorStr
import Derived.Test.YtcoghkkhjaokmaaDoorVmFastL
import Derived.Test.YtcoghkkhjaokmaaDoorLaidTextForms
namespace Go.Proofs.YtcoghkkhjaokmaaDoor.textForms
open Go.Vm
def ext : Ext := orX (strX sg strs) (extBy exts)
end Go.Proofs.YtcoghkkhjaokmaaDoor.textForms
