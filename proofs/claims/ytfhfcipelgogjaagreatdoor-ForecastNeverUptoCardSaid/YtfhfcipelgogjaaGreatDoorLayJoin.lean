/- Joined texts: laid with the printing. -/
import Derived.Test.YtfhfcipelgogjaaGreatDoorLayPrint
