/- All printed functions. -/
import Derived.Test.YtecangnmmbcbkaaDoorG2
