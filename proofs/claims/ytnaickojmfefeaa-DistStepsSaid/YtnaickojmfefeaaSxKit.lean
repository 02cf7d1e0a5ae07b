/- All of it. -/
import Derived.Test.YtnaickojmfefeaaSxMake
import Derived.KernelRfl
