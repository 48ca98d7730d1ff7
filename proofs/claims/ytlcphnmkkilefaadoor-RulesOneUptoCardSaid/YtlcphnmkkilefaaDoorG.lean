/- All printed functions. -/
import Derived.Test.YtlcphnmkkilefaaDoorG0
