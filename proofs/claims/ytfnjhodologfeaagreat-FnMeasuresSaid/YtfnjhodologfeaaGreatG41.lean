/- laws.FnMeasures returns true for every input, and the input reads as it did. -/
import Derived.Test.YtfnjhodologfeaaGreatG26
import Derived.Test.YtfnjhodologfeaaGreatG39
import Derived.Test.YtfnjhodologfeaaGreatG40
/- laws.FnMeasures returns true for every input, and the input reads as it did. -/
namespace Go.Proofs.YtfnjhodologfeaaGreat
/-- the statement -/
theorem measures_holds : Rows.FnMeasuresSaid := over_measures (fun v bs w hb => law_of DrawUnfold_any v bs w hb)
#print axioms measures_holds
end Go.Proofs.YtfnjhodologfeaaGreat
