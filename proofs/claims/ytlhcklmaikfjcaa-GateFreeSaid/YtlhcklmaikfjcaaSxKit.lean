/- All of it. -/
import Derived.Test.YtlhcklmaikfjcaaSxMore
import Derived.KernelRfl
