/- All of it. -/
import Derived.Test.YtndjnchalihleaaSxFun
import Derived.KernelRfl
