/- what 'Roomy' leans on in this seat. -/
import Derived.Test.YtnijemjfbghhmaaOutqFlowsWalk
