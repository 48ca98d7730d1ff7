/- All printed functions. -/
import Derived.Test.YtlcphnmkkilefaaG1
