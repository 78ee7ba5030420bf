/- append to an own row: the laws stand in T0. -/
import Derived.Test.YtccmhhmdenfecaaGreatDoorLw
import Derived.Test.YtccmhhmdenfecaaGreatDoorT0
import Derived.Deep.RegionLaw
import Derived.Laws.AppendOwn
import Derived.Laws.AppendOwnNone
import Derived.Laws.Rows
