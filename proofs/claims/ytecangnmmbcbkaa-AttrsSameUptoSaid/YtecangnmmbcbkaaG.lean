/- All printed functions. -/
import Derived.Test.YtecangnmmbcbkaaG1
